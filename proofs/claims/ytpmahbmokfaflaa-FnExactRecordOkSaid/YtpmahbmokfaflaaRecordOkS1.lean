/- Each function told by its native program; written by gen.py. -/

import Derived.Test.YtpmahbmokfaflaaRecordOkS0

namespace Go.VE

open Go.Proofs

noncomputable section

set_option linter.unusedVariables false
set_option linter.unusedSimpArgs false
set_option maxRecDepth 100000


/-! ### loop.example/g00327/laws.szRange -/

def laws_szRange_loops : Nat → Option LoopSpec
  | _ => none

theorem laws_szRange_x (a0 : ByteArray) (a1 : ByteArray) (a2 : Int) : execFn G0 laws_szRange_loops Try.f246 [.agg [.str a0, .str a1], .int .i64 a2] [] = laws_szRange_d (a0, a1) a2 (fun (y : Int) => some ⟨.ret, [.int .i64 y], []⟩) := by kernel_rfl

theorem laws_szRange_y (a0 : ByteArray) (a1 : ByteArray) (a2 : Int) : execFn G0 laws_szRange_loops Try.f246 [.agg [.str a0, .str a1], .int .i64 a2] [] = laws_szRange_k (a0, a1) a2 (fun (y : Int) => some ⟨.ret, [.int .i64 y], []⟩) := (laws_szRange_x a0 a1 a2).trans (by rw [laws_szRange_e])

theorem laws_szRange_l : LoopsOk G0 ⟨0, 20, laws_szRange_loops⟩ (Try.f246.body.getD .skip) :=
  loopsOk_of (ids := []) (by kernel_rfl) (by kernel_rfl) trivial

theorem laws_szRange_c : Contract Try.prog 246 laws_szRange_g := by
  refine told G0_ok follows Try.func246 (c := Try.f246.body.getD .skip) (by kernel_rfl) ?_
  intro args s k r hk
  unfold laws_szRange_g at hk
  rcases onPats_inv hk with ⟨p, q, rfl, rfl⟩ | hk
  · exact ⟨laws_szRange_loops, laws_szRange_q p.1.1 p.1.2.1 p.2.1, laws_szRange_y p.1.1 p.1.2.1 p.2.1, laws_szRange_l⟩
  cases hk

def G1 : Glob := G0.add 246 laws_szRange_g

theorem G1_ok : GlobOk Try.prog G1 := G0_ok.add ⟨Try.f246, Try.func246, by kernel_rfl, by kernel_rfl⟩ laws_szRange_c

/-! ### loop.example/g00327/laws.szRangeS -/

def laws_szRangeS_loops : Nat → Option LoopSpec
  | 0 => some ⟨[0, 1, 4, 5], [], fun vals st k => onPats [.lst tRange, .int .i64, .int .i64, .int .i64] [] vals st (fun p q => loopK laws_szRangeS_b0 Fuel (p.1, p.2.1, p.2.2.1, p.2.2.2.1) (Sum.elim (fun z => k .ret [.lst tRange z.1, .int .i64 z.2.1, .int .i64 z.2.2.1, .int .i64 z.2.2.2] []) (fun z => k (.exit 0) [.lst tRange z.1, .int .i64 z.2.1, .int .i64 z.2.2.1, .int .i64 z.2.2.2] [])))
      (none)⟩
  | _ => none

def laws_szRangeS_v0 : ((List dRange) × Int × Int × Int) → List AV := (fun x => [.lst tRange x.1, .int .i64 x.2.1, .int .i64 x.2.2.1, .int .i64 x.2.2.2])
def laws_szRangeS_s0 : ((List dRange) × Int × Int × Int) → St := (fun x => [])
def laws_szRangeS_e0 : (((List dRange) × Int × Int × Int) ⊕ ((List dRange) × Int × Int × Int)) → Out × List AV × St := (Sum.elim (fun z => (.ret, [.lst tRange z.1, .int .i64 z.2.1, .int .i64 z.2.2.1, .int .i64 z.2.2.2], [])) (fun z => ((.exit 0), [.lst tRange z.1, .int .i64 z.2.1, .int .i64 z.2.2.1, .int .i64 z.2.2.2], [])))

theorem laws_szRangeS_bx0 (x : ((List dRange) × Int × Int × Int)) : exec G1 ⟨0, 27, laws_szRangeS_loops⟩ (loopBody Try.f180 0) (bodyK ⟨0, 27, laws_szRangeS_loops⟩ [0, 1, 4, 5] []) (setEs (deads 27) [0, 1, 4, 5] (laws_szRangeS_v0 x)) (laws_szRangeS_s0 x) = laws_szRangeS_b0 x (Sum.elim (fun y => some ⟨.norm, laws_szRangeS_v0 y, laws_szRangeS_s0 y⟩) fun z => some ⟨(laws_szRangeS_e0 z).1, (laws_szRangeS_e0 z).2.1, (laws_szRangeS_e0 z).2.2⟩) := by
  kernel_rfl

theorem laws_szRangeS_lo0 : ∀ sp, (laws_szRangeS_loops 0) = some sp → LoopOk G1 ⟨0, 27, laws_szRangeS_loops⟩ sp (loopBody Try.f180 0) := by
  intro sp hsp vals st k r h
  cases hsp
  dsimp only at h
  rcases onPats_inv2 h with ⟨p, q, rfl, rfl, h⟩ | h
  · exact loop_runs2 laws_szRangeS_bp0 laws_szRangeS_v0 laws_szRangeS_s0 laws_szRangeS_e0 (fun z => by rcases z with z | z <;> (intro h; cases h)) laws_szRangeS_bx0 Fuel (p.1, p.2.1, p.2.2.1, p.2.2.2.1) _ k r (fun z => by rcases z with z | z <;> rfl) h
  cases h

theorem laws_szRangeS_x (a0 : (List dRange)) (a1 : Int) : execFn G1 laws_szRangeS_loops Try.f180 [.lst tRange a0, .int .i64 a1] [] = laws_szRangeS_d a0 a1 (fun (y : Int) => some ⟨.ret, [.int .i64 y], []⟩) := by kernel_rfl

theorem laws_szRangeS_y (a0 : (List dRange)) (a1 : Int) : execFn G1 laws_szRangeS_loops Try.f180 [.lst tRange a0, .int .i64 a1] [] = laws_szRangeS_k a0 a1 (fun (y : Int) => some ⟨.ret, [.int .i64 y], []⟩) := (laws_szRangeS_x a0 a1).trans (by rw [laws_szRangeS_e])

theorem laws_szRangeS_l : LoopsOk G1 ⟨0, 27, laws_szRangeS_loops⟩ (Try.f180.body.getD .skip) :=
  loopsOk_of (ids := [0]) (by kernel_rfl) (by kernel_rfl) ⟨laws_szRangeS_lo0, trivial⟩

theorem laws_szRangeS_c : Contract Try.prog 180 laws_szRangeS_g := by
  refine told G1_ok follows Try.func180 (c := Try.f180.body.getD .skip) (by kernel_rfl) ?_
  intro args s k r hk
  unfold laws_szRangeS_g at hk
  rcases onPats_inv hk with ⟨p, q, rfl, rfl⟩ | hk
  · exact ⟨laws_szRangeS_loops, laws_szRangeS_q p.1 p.2.1, laws_szRangeS_y p.1 p.2.1, laws_szRangeS_l⟩
  cases hk

def G2 : Glob := G1.add 180 laws_szRangeS_g

theorem G2_ok : GlobOk Try.prog G2 := G1_ok.add ⟨Try.f180, Try.func180, by kernel_rfl, by kernel_rfl⟩ laws_szRangeS_c

/-! ### loop.example/g00327/laws.szWrite -/

def laws_szWrite_loops : Nat → Option LoopSpec
  | _ => none

theorem laws_szWrite_x (a0 : ByteArray) (a1 : ByteArray) (a2 : Bool) (a3 : Int) : execFn G2 laws_szWrite_loops Try.f247 [.agg [.str a0, .str a1, .bool a2], .int .i64 a3] [] = laws_szWrite_d (a0, (a1, a2)) a3 (fun (y : Int) => some ⟨.ret, [.int .i64 y], []⟩) := by kernel_rfl

theorem laws_szWrite_y (a0 : ByteArray) (a1 : ByteArray) (a2 : Bool) (a3 : Int) : execFn G2 laws_szWrite_loops Try.f247 [.agg [.str a0, .str a1, .bool a2], .int .i64 a3] [] = laws_szWrite_k (a0, (a1, a2)) a3 (fun (y : Int) => some ⟨.ret, [.int .i64 y], []⟩) := (laws_szWrite_x a0 a1 a2 a3).trans (by rw [laws_szWrite_e])

theorem laws_szWrite_l : LoopsOk G2 ⟨0, 20, laws_szWrite_loops⟩ (Try.f247.body.getD .skip) :=
  loopsOk_of (ids := []) (by kernel_rfl) (by kernel_rfl) trivial

theorem laws_szWrite_c : Contract Try.prog 247 laws_szWrite_g := by
  refine told G2_ok follows Try.func247 (c := Try.f247.body.getD .skip) (by kernel_rfl) ?_
  intro args s k r hk
  unfold laws_szWrite_g at hk
  rcases onPats_inv hk with ⟨p, q, rfl, rfl⟩ | hk
  · exact ⟨laws_szWrite_loops, laws_szWrite_q p.1.1 p.1.2.1 p.1.2.2.1 p.2.1, laws_szWrite_y p.1.1 p.1.2.1 p.1.2.2.1 p.2.1, laws_szWrite_l⟩
  cases hk

def G3 : Glob := G2.add 247 laws_szWrite_g

theorem G3_ok : GlobOk Try.prog G3 := G2_ok.add ⟨Try.f247, Try.func247, by kernel_rfl, by kernel_rfl⟩ laws_szWrite_c

/-! ### loop.example/g00327/laws.szWriteS -/

def laws_szWriteS_loops : Nat → Option LoopSpec
  | 0 => some ⟨[0, 1, 4, 5], [], fun vals st k => onPats [.lst tWrite, .int .i64, .int .i64, .int .i64] [] vals st (fun p q => loopK laws_szWriteS_b0 Fuel (p.1, p.2.1, p.2.2.1, p.2.2.2.1) (Sum.elim (fun z => k .ret [.lst tWrite z.1, .int .i64 z.2.1, .int .i64 z.2.2.1, .int .i64 z.2.2.2] []) (fun z => k (.exit 0) [.lst tWrite z.1, .int .i64 z.2.1, .int .i64 z.2.2.1, .int .i64 z.2.2.2] [])))
      (none)⟩
  | _ => none

def laws_szWriteS_v0 : ((List dWrite) × Int × Int × Int) → List AV := (fun x => [.lst tWrite x.1, .int .i64 x.2.1, .int .i64 x.2.2.1, .int .i64 x.2.2.2])
def laws_szWriteS_s0 : ((List dWrite) × Int × Int × Int) → St := (fun x => [])
def laws_szWriteS_e0 : (((List dWrite) × Int × Int × Int) ⊕ ((List dWrite) × Int × Int × Int)) → Out × List AV × St := (Sum.elim (fun z => (.ret, [.lst tWrite z.1, .int .i64 z.2.1, .int .i64 z.2.2.1, .int .i64 z.2.2.2], [])) (fun z => ((.exit 0), [.lst tWrite z.1, .int .i64 z.2.1, .int .i64 z.2.2.1, .int .i64 z.2.2.2], [])))

theorem laws_szWriteS_bx0 (x : ((List dWrite) × Int × Int × Int)) : exec G3 ⟨0, 27, laws_szWriteS_loops⟩ (loopBody Try.f181 0) (bodyK ⟨0, 27, laws_szWriteS_loops⟩ [0, 1, 4, 5] []) (setEs (deads 27) [0, 1, 4, 5] (laws_szWriteS_v0 x)) (laws_szWriteS_s0 x) = laws_szWriteS_b0 x (Sum.elim (fun y => some ⟨.norm, laws_szWriteS_v0 y, laws_szWriteS_s0 y⟩) fun z => some ⟨(laws_szWriteS_e0 z).1, (laws_szWriteS_e0 z).2.1, (laws_szWriteS_e0 z).2.2⟩) := by
  kernel_rfl

theorem laws_szWriteS_lo0 : ∀ sp, (laws_szWriteS_loops 0) = some sp → LoopOk G3 ⟨0, 27, laws_szWriteS_loops⟩ sp (loopBody Try.f181 0) := by
  intro sp hsp vals st k r h
  cases hsp
  dsimp only at h
  rcases onPats_inv2 h with ⟨p, q, rfl, rfl, h⟩ | h
  · exact loop_runs2 laws_szWriteS_bp0 laws_szWriteS_v0 laws_szWriteS_s0 laws_szWriteS_e0 (fun z => by rcases z with z | z <;> (intro h; cases h)) laws_szWriteS_bx0 Fuel (p.1, p.2.1, p.2.2.1, p.2.2.2.1) _ k r (fun z => by rcases z with z | z <;> rfl) h
  cases h

theorem laws_szWriteS_x (a0 : (List dWrite)) (a1 : Int) : execFn G3 laws_szWriteS_loops Try.f181 [.lst tWrite a0, .int .i64 a1] [] = laws_szWriteS_d a0 a1 (fun (y : Int) => some ⟨.ret, [.int .i64 y], []⟩) := by kernel_rfl

theorem laws_szWriteS_y (a0 : (List dWrite)) (a1 : Int) : execFn G3 laws_szWriteS_loops Try.f181 [.lst tWrite a0, .int .i64 a1] [] = laws_szWriteS_k a0 a1 (fun (y : Int) => some ⟨.ret, [.int .i64 y], []⟩) := (laws_szWriteS_x a0 a1).trans (by rw [laws_szWriteS_e])

theorem laws_szWriteS_l : LoopsOk G3 ⟨0, 27, laws_szWriteS_loops⟩ (Try.f181.body.getD .skip) :=
  loopsOk_of (ids := [0]) (by kernel_rfl) (by kernel_rfl) ⟨laws_szWriteS_lo0, trivial⟩

theorem laws_szWriteS_c : Contract Try.prog 181 laws_szWriteS_g := by
  refine told G3_ok follows Try.func181 (c := Try.f181.body.getD .skip) (by kernel_rfl) ?_
  intro args s k r hk
  unfold laws_szWriteS_g at hk
  rcases onPats_inv hk with ⟨p, q, rfl, rfl⟩ | hk
  · exact ⟨laws_szWriteS_loops, laws_szWriteS_q p.1 p.2.1, laws_szWriteS_y p.1 p.2.1, laws_szWriteS_l⟩
  cases hk

def G4 : Glob := G3.add 181 laws_szWriteS_g

theorem G4_ok : GlobOk Try.prog G4 := G3_ok.add ⟨Try.f181, Try.func181, by kernel_rfl, by kernel_rfl⟩ laws_szWriteS_c

/-! ### loop.example/g00327/laws.szTxn -/

def laws_szTxn_loops : Nat → Option LoopSpec
  | _ => none

theorem laws_szTxn_x (a0 : Int) (a1 : Int) (a2 : Int) (a3 : Int) (a4 : (List dRange)) (a5 : (List dWrite)) (a6 : Bool) (a7 : ByteArray) (a8 : Int) : execFn G4 laws_szTxn_loops Try.f93 [.agg [.int .i64 a0, .int .i64 a1, .int .i64 a2, .int .i64 a3, .lst tRange a4, .lst tWrite a5, .bool a6, .str a7], .int .i64 a8] [] = laws_szTxn_d (a0, (a1, (a2, (a3, (a4, (a5, (a6, a7))))))) a8 (fun (y : Int) => some ⟨.ret, [.int .i64 y], []⟩) := by kernel_rfl

theorem laws_szTxn_y (a0 : Int) (a1 : Int) (a2 : Int) (a3 : Int) (a4 : (List dRange)) (a5 : (List dWrite)) (a6 : Bool) (a7 : ByteArray) (a8 : Int) : execFn G4 laws_szTxn_loops Try.f93 [.agg [.int .i64 a0, .int .i64 a1, .int .i64 a2, .int .i64 a3, .lst tRange a4, .lst tWrite a5, .bool a6, .str a7], .int .i64 a8] [] = laws_szTxn_k (a0, (a1, (a2, (a3, (a4, (a5, (a6, a7))))))) a8 (fun (y : Int) => some ⟨.ret, [.int .i64 y], []⟩) := (laws_szTxn_x a0 a1 a2 a3 a4 a5 a6 a7 a8).trans (by rw [laws_szTxn_e])

theorem laws_szTxn_l : LoopsOk G4 ⟨0, 25, laws_szTxn_loops⟩ (Try.f93.body.getD .skip) :=
  loopsOk_of (ids := []) (by kernel_rfl) (by kernel_rfl) trivial

theorem laws_szTxn_c : Contract Try.prog 93 laws_szTxn_g := by
  refine told G4_ok follows Try.func93 (c := Try.f93.body.getD .skip) (by kernel_rfl) ?_
  intro args s k r hk
  unfold laws_szTxn_g at hk
  rcases onPats_inv hk with ⟨p, q, rfl, rfl⟩ | hk
  · exact ⟨laws_szTxn_loops, laws_szTxn_q p.1.1 p.1.2.1 p.1.2.2.1 p.1.2.2.2.1 p.1.2.2.2.2.1 p.1.2.2.2.2.2.1 p.1.2.2.2.2.2.2.1 p.1.2.2.2.2.2.2.2.1 p.2.1, laws_szTxn_y p.1.1 p.1.2.1 p.1.2.2.1 p.1.2.2.2.1 p.1.2.2.2.2.1 p.1.2.2.2.2.2.1 p.1.2.2.2.2.2.2.1 p.1.2.2.2.2.2.2.2.1 p.2.1, laws_szTxn_l⟩
  cases hk

def G5 : Glob := G4.add 93 laws_szTxn_g

theorem G5_ok : GlobOk Try.prog G5 := G4_ok.add ⟨Try.f93, Try.func93, by kernel_rfl, by kernel_rfl⟩ laws_szTxn_c

/-! ### loop.example/g00327/laws.szVersion -/

def laws_szVersion_loops : Nat → Option LoopSpec
  | _ => none

theorem laws_szVersion_x (a0 : ByteArray) (a1 : ByteArray) (a2 : Bool) (a3 : Int) (a4 : Int) : execFn G5 laws_szVersion_loops Try.f192 [.agg [.str a0, .str a1, .bool a2, .int .i64 a3], .int .i64 a4] [] = laws_szVersion_d (a0, (a1, (a2, a3))) a4 (fun (y : Int) => some ⟨.ret, [.int .i64 y], []⟩) := by kernel_rfl

theorem laws_szVersion_y (a0 : ByteArray) (a1 : ByteArray) (a2 : Bool) (a3 : Int) (a4 : Int) : execFn G5 laws_szVersion_loops Try.f192 [.agg [.str a0, .str a1, .bool a2, .int .i64 a3], .int .i64 a4] [] = laws_szVersion_k (a0, (a1, (a2, a3))) a4 (fun (y : Int) => some ⟨.ret, [.int .i64 y], []⟩) := (laws_szVersion_x a0 a1 a2 a3 a4).trans (by rw [laws_szVersion_e])

theorem laws_szVersion_l : LoopsOk G5 ⟨0, 20, laws_szVersion_loops⟩ (Try.f192.body.getD .skip) :=
  loopsOk_of (ids := []) (by kernel_rfl) (by kernel_rfl) trivial

theorem laws_szVersion_c : Contract Try.prog 192 laws_szVersion_g := by
  refine told G5_ok follows Try.func192 (c := Try.f192.body.getD .skip) (by kernel_rfl) ?_
  intro args s k r hk
  unfold laws_szVersion_g at hk
  rcases onPats_inv hk with ⟨p, q, rfl, rfl⟩ | hk
  · exact ⟨laws_szVersion_loops, laws_szVersion_q p.1.1 p.1.2.1 p.1.2.2.1 p.1.2.2.2.1 p.2.1, laws_szVersion_y p.1.1 p.1.2.1 p.1.2.2.1 p.1.2.2.2.1 p.2.1, laws_szVersion_l⟩
  cases hk

def G6 : Glob := G5.add 192 laws_szVersion_g

theorem G6_ok : GlobOk Try.prog G6 := G5_ok.add ⟨Try.f192, Try.func192, by kernel_rfl, by kernel_rfl⟩ laws_szVersion_c

/-! ### loop.example/g00327/laws.szVersionS -/

def laws_szVersionS_loops : Nat → Option LoopSpec
  | 0 => some ⟨[0, 1, 4, 5], [], fun vals st k => onPats [.lst tVersion, .int .i64, .int .i64, .int .i64] [] vals st (fun p q => loopK laws_szVersionS_b0 Fuel (p.1, p.2.1, p.2.2.1, p.2.2.2.1) (Sum.elim (fun z => k .ret [.lst tVersion z.1, .int .i64 z.2.1, .int .i64 z.2.2.1, .int .i64 z.2.2.2] []) (fun z => k (.exit 0) [.lst tVersion z.1, .int .i64 z.2.1, .int .i64 z.2.2.1, .int .i64 z.2.2.2] [])))
      (none)⟩
  | _ => none

def laws_szVersionS_v0 : ((List dVersion) × Int × Int × Int) → List AV := (fun x => [.lst tVersion x.1, .int .i64 x.2.1, .int .i64 x.2.2.1, .int .i64 x.2.2.2])
def laws_szVersionS_s0 : ((List dVersion) × Int × Int × Int) → St := (fun x => [])
def laws_szVersionS_e0 : (((List dVersion) × Int × Int × Int) ⊕ ((List dVersion) × Int × Int × Int)) → Out × List AV × St := (Sum.elim (fun z => (.ret, [.lst tVersion z.1, .int .i64 z.2.1, .int .i64 z.2.2.1, .int .i64 z.2.2.2], [])) (fun z => ((.exit 0), [.lst tVersion z.1, .int .i64 z.2.1, .int .i64 z.2.2.1, .int .i64 z.2.2.2], [])))

theorem laws_szVersionS_bx0 (x : ((List dVersion) × Int × Int × Int)) : exec G6 ⟨0, 27, laws_szVersionS_loops⟩ (loopBody Try.f110 0) (bodyK ⟨0, 27, laws_szVersionS_loops⟩ [0, 1, 4, 5] []) (setEs (deads 27) [0, 1, 4, 5] (laws_szVersionS_v0 x)) (laws_szVersionS_s0 x) = laws_szVersionS_b0 x (Sum.elim (fun y => some ⟨.norm, laws_szVersionS_v0 y, laws_szVersionS_s0 y⟩) fun z => some ⟨(laws_szVersionS_e0 z).1, (laws_szVersionS_e0 z).2.1, (laws_szVersionS_e0 z).2.2⟩) := by
  kernel_rfl

theorem laws_szVersionS_lo0 : ∀ sp, (laws_szVersionS_loops 0) = some sp → LoopOk G6 ⟨0, 27, laws_szVersionS_loops⟩ sp (loopBody Try.f110 0) := by
  intro sp hsp vals st k r h
  cases hsp
  dsimp only at h
  rcases onPats_inv2 h with ⟨p, q, rfl, rfl, h⟩ | h
  · exact loop_runs2 laws_szVersionS_bp0 laws_szVersionS_v0 laws_szVersionS_s0 laws_szVersionS_e0 (fun z => by rcases z with z | z <;> (intro h; cases h)) laws_szVersionS_bx0 Fuel (p.1, p.2.1, p.2.2.1, p.2.2.2.1) _ k r (fun z => by rcases z with z | z <;> rfl) h
  cases h

theorem laws_szVersionS_x (a0 : (List dVersion)) (a1 : Int) : execFn G6 laws_szVersionS_loops Try.f110 [.lst tVersion a0, .int .i64 a1] [] = laws_szVersionS_d a0 a1 (fun (y : Int) => some ⟨.ret, [.int .i64 y], []⟩) := by kernel_rfl

theorem laws_szVersionS_y (a0 : (List dVersion)) (a1 : Int) : execFn G6 laws_szVersionS_loops Try.f110 [.lst tVersion a0, .int .i64 a1] [] = laws_szVersionS_k a0 a1 (fun (y : Int) => some ⟨.ret, [.int .i64 y], []⟩) := (laws_szVersionS_x a0 a1).trans (by rw [laws_szVersionS_e])

theorem laws_szVersionS_l : LoopsOk G6 ⟨0, 27, laws_szVersionS_loops⟩ (Try.f110.body.getD .skip) :=
  loopsOk_of (ids := [0]) (by kernel_rfl) (by kernel_rfl) ⟨laws_szVersionS_lo0, trivial⟩

theorem laws_szVersionS_c : Contract Try.prog 110 laws_szVersionS_g := by
  refine told G6_ok follows Try.func110 (c := Try.f110.body.getD .skip) (by kernel_rfl) ?_
  intro args s k r hk
  unfold laws_szVersionS_g at hk
  rcases onPats_inv hk with ⟨p, q, rfl, rfl⟩ | hk
  · exact ⟨laws_szVersionS_loops, laws_szVersionS_q p.1 p.2.1, laws_szVersionS_y p.1 p.2.1, laws_szVersionS_l⟩
  cases hk

def G7 : Glob := G6.add 110 laws_szVersionS_g

theorem G7_ok : GlobOk Try.prog G7 := G6_ok.add ⟨Try.f110, Try.func110, by kernel_rfl, by kernel_rfl⟩ laws_szVersionS_c

/-! ### loop.example/g00327/laws.szTxnS -/

def laws_szTxnS_loops : Nat → Option LoopSpec
  | 0 => some ⟨[0, 1, 4, 5], [], fun vals st k => onPats [.lst tTxn, .int .i64, .int .i64, .int .i64] [] vals st (fun p q => loopK laws_szTxnS_b0 Fuel (p.1, p.2.1, p.2.2.1, p.2.2.2.1) (Sum.elim (fun z => k .ret [.lst tTxn z.1, .int .i64 z.2.1, .int .i64 z.2.2.1, .int .i64 z.2.2.2] []) (fun z => k (.exit 0) [.lst tTxn z.1, .int .i64 z.2.1, .int .i64 z.2.2.1, .int .i64 z.2.2.2] [])))
      (none)⟩
  | _ => none

def laws_szTxnS_v0 : ((List dTxn) × Int × Int × Int) → List AV := (fun x => [.lst tTxn x.1, .int .i64 x.2.1, .int .i64 x.2.2.1, .int .i64 x.2.2.2])
def laws_szTxnS_s0 : ((List dTxn) × Int × Int × Int) → St := (fun x => [])
def laws_szTxnS_e0 : (((List dTxn) × Int × Int × Int) ⊕ ((List dTxn) × Int × Int × Int)) → Out × List AV × St := (Sum.elim (fun z => (.ret, [.lst tTxn z.1, .int .i64 z.2.1, .int .i64 z.2.2.1, .int .i64 z.2.2.2], [])) (fun z => ((.exit 0), [.lst tTxn z.1, .int .i64 z.2.1, .int .i64 z.2.2.1, .int .i64 z.2.2.2], [])))

theorem laws_szTxnS_bx0 (x : ((List dTxn) × Int × Int × Int)) : exec G7 ⟨0, 27, laws_szTxnS_loops⟩ (loopBody Try.f46 0) (bodyK ⟨0, 27, laws_szTxnS_loops⟩ [0, 1, 4, 5] []) (setEs (deads 27) [0, 1, 4, 5] (laws_szTxnS_v0 x)) (laws_szTxnS_s0 x) = laws_szTxnS_b0 x (Sum.elim (fun y => some ⟨.norm, laws_szTxnS_v0 y, laws_szTxnS_s0 y⟩) fun z => some ⟨(laws_szTxnS_e0 z).1, (laws_szTxnS_e0 z).2.1, (laws_szTxnS_e0 z).2.2⟩) := by
  kernel_rfl

theorem laws_szTxnS_lo0 : ∀ sp, (laws_szTxnS_loops 0) = some sp → LoopOk G7 ⟨0, 27, laws_szTxnS_loops⟩ sp (loopBody Try.f46 0) := by
  intro sp hsp vals st k r h
  cases hsp
  dsimp only at h
  rcases onPats_inv2 h with ⟨p, q, rfl, rfl, h⟩ | h
  · exact loop_runs2 laws_szTxnS_bp0 laws_szTxnS_v0 laws_szTxnS_s0 laws_szTxnS_e0 (fun z => by rcases z with z | z <;> (intro h; cases h)) laws_szTxnS_bx0 Fuel (p.1, p.2.1, p.2.2.1, p.2.2.2.1) _ k r (fun z => by rcases z with z | z <;> rfl) h
  cases h

theorem laws_szTxnS_x (a0 : (List dTxn)) (a1 : Int) : execFn G7 laws_szTxnS_loops Try.f46 [.lst tTxn a0, .int .i64 a1] [] = laws_szTxnS_d a0 a1 (fun (y : Int) => some ⟨.ret, [.int .i64 y], []⟩) := by kernel_rfl

theorem laws_szTxnS_y (a0 : (List dTxn)) (a1 : Int) : execFn G7 laws_szTxnS_loops Try.f46 [.lst tTxn a0, .int .i64 a1] [] = laws_szTxnS_k a0 a1 (fun (y : Int) => some ⟨.ret, [.int .i64 y], []⟩) := (laws_szTxnS_x a0 a1).trans (by rw [laws_szTxnS_e])

theorem laws_szTxnS_l : LoopsOk G7 ⟨0, 27, laws_szTxnS_loops⟩ (Try.f46.body.getD .skip) :=
  loopsOk_of (ids := [0]) (by kernel_rfl) (by kernel_rfl) ⟨laws_szTxnS_lo0, trivial⟩

theorem laws_szTxnS_c : Contract Try.prog 46 laws_szTxnS_g := by
  refine told G7_ok follows Try.func46 (c := Try.f46.body.getD .skip) (by kernel_rfl) ?_
  intro args s k r hk
  unfold laws_szTxnS_g at hk
  rcases onPats_inv hk with ⟨p, q, rfl, rfl⟩ | hk
  · exact ⟨laws_szTxnS_loops, laws_szTxnS_q p.1 p.2.1, laws_szTxnS_y p.1 p.2.1, laws_szTxnS_l⟩
  cases hk

def G8 : Glob := G7.add 46 laws_szTxnS_g

theorem G8_ok : GlobOk Try.prog G8 := G7_ok.add ⟨Try.f46, Try.func46, by kernel_rfl, by kernel_rfl⟩ laws_szTxnS_c

/-! ### loop.example/g00327/laws.szBase -/

def laws_szBase_loops : Nat → Option LoopSpec
  | _ => none

theorem laws_szBase_x (a0 : (List dVersion)) (a1 : (List dTxn)) (a2 : (List dTxn)) (a3 : Int) (a4 : Int) (a5 : Int) : execFn G8 laws_szBase_loops Try.f45 [.agg [.lst tVersion a0, .lst tTxn a1, .lst tTxn a2, .int .i64 a3, .int .i64 a4], .int .i64 a5] [] = laws_szBase_d (a0, (a1, (a2, (a3, a4)))) a5 (fun (y : Int) => some ⟨.ret, [.int .i64 y], []⟩) := by kernel_rfl

theorem laws_szBase_y (a0 : (List dVersion)) (a1 : (List dTxn)) (a2 : (List dTxn)) (a3 : Int) (a4 : Int) (a5 : Int) : execFn G8 laws_szBase_loops Try.f45 [.agg [.lst tVersion a0, .lst tTxn a1, .lst tTxn a2, .int .i64 a3, .int .i64 a4], .int .i64 a5] [] = laws_szBase_k (a0, (a1, (a2, (a3, a4)))) a5 (fun (y : Int) => some ⟨.ret, [.int .i64 y], []⟩) := (laws_szBase_x a0 a1 a2 a3 a4 a5).trans (by rw [laws_szBase_e])

theorem laws_szBase_l : LoopsOk G8 ⟨0, 24, laws_szBase_loops⟩ (Try.f45.body.getD .skip) :=
  loopsOk_of (ids := []) (by kernel_rfl) (by kernel_rfl) trivial

theorem laws_szBase_c : Contract Try.prog 45 laws_szBase_g := by
  refine told G8_ok follows Try.func45 (c := Try.f45.body.getD .skip) (by kernel_rfl) ?_
  intro args s k r hk
  unfold laws_szBase_g at hk
  rcases onPats_inv hk with ⟨p, q, rfl, rfl⟩ | hk
  · exact ⟨laws_szBase_loops, laws_szBase_q p.1.1 p.1.2.1 p.1.2.2.1 p.1.2.2.2.1 p.1.2.2.2.2.1 p.2.1, laws_szBase_y p.1.1 p.1.2.1 p.1.2.2.1 p.1.2.2.2.1 p.1.2.2.2.2.1 p.2.1, laws_szBase_l⟩
  cases hk

def G9 : Glob := G8.add 45 laws_szBase_g

theorem G9_ok : GlobOk Try.prog G9 := G8_ok.add ⟨Try.f45, Try.func45, by kernel_rfl, by kernel_rfl⟩ laws_szBase_c

/-! ### loop.example/g00327/laws.szRecord -/

def laws_szRecord_loops : Nat → Option LoopSpec
  | _ => none

theorem laws_szRecord_x (a0 : Int) (a1 : Int) (a2 : Int) (a3 : Int) (a4 : Int) (a5 : (List dRange)) (a6 : (List dWrite)) (a7 : Bool) (a8 : ByteArray) (a9 : ByteArray) (a10 : Bool) (a11 : (List dVersion)) (a12 : (List dTxn)) (a13 : (List dTxn)) (a14 : Int) (a15 : Int) (a16 : Int) : execFn G9 laws_szRecord_loops Try.f37 [.agg [.int .i64 a0, .int .i64 a1, .int .i64 a2, .int .i64 a3, .int .i64 a4, .lst tRange a5, .lst tWrite a6, .bool a7, .str a8, .str a9, .bool a10, .lst tVersion a11, .lst tTxn a12, .lst tTxn a13, .int .i64 a14, .int .i64 a15], .int .i64 a16] [] = laws_szRecord_d (a0, ((a1, (a2, (a3, (a4, (a5, (a6, (a7, a8))))))), (a9, (a10, (a11, (a12, (a13, (a14, a15)))))))) a16 (fun (y : Int) => some ⟨.ret, [.int .i64 y], []⟩) := by kernel_rfl

theorem laws_szRecord_y (a0 : Int) (a1 : Int) (a2 : Int) (a3 : Int) (a4 : Int) (a5 : (List dRange)) (a6 : (List dWrite)) (a7 : Bool) (a8 : ByteArray) (a9 : ByteArray) (a10 : Bool) (a11 : (List dVersion)) (a12 : (List dTxn)) (a13 : (List dTxn)) (a14 : Int) (a15 : Int) (a16 : Int) : execFn G9 laws_szRecord_loops Try.f37 [.agg [.int .i64 a0, .int .i64 a1, .int .i64 a2, .int .i64 a3, .int .i64 a4, .lst tRange a5, .lst tWrite a6, .bool a7, .str a8, .str a9, .bool a10, .lst tVersion a11, .lst tTxn a12, .lst tTxn a13, .int .i64 a14, .int .i64 a15], .int .i64 a16] [] = laws_szRecord_k (a0, ((a1, (a2, (a3, (a4, (a5, (a6, (a7, a8))))))), (a9, (a10, (a11, (a12, (a13, (a14, a15)))))))) a16 (fun (y : Int) => some ⟨.ret, [.int .i64 y], []⟩) := (laws_szRecord_x a0 a1 a2 a3 a4 a5 a6 a7 a8 a9 a10 a11 a12 a13 a14 a15 a16).trans (by rw [laws_szRecord_e])

theorem laws_szRecord_l : LoopsOk G9 ⟨0, 25, laws_szRecord_loops⟩ (Try.f37.body.getD .skip) :=
  loopsOk_of (ids := []) (by kernel_rfl) (by kernel_rfl) trivial

theorem laws_szRecord_c : Contract Try.prog 37 laws_szRecord_g := by
  refine told G9_ok follows Try.func37 (c := Try.f37.body.getD .skip) (by kernel_rfl) ?_
  intro args s k r hk
  unfold laws_szRecord_g at hk
  rcases onPats_inv hk with ⟨p, q, rfl, rfl⟩ | hk
  · exact ⟨laws_szRecord_loops, laws_szRecord_q p.1.1 p.1.2.1 p.1.2.2.1 p.1.2.2.2.1 p.1.2.2.2.2.1 p.1.2.2.2.2.2.1 p.1.2.2.2.2.2.2.1 p.1.2.2.2.2.2.2.2.1 p.1.2.2.2.2.2.2.2.2.1 p.1.2.2.2.2.2.2.2.2.2.1 p.1.2.2.2.2.2.2.2.2.2.2.1 p.1.2.2.2.2.2.2.2.2.2.2.2.1 p.1.2.2.2.2.2.2.2.2.2.2.2.2.1 p.1.2.2.2.2.2.2.2.2.2.2.2.2.2.1 p.1.2.2.2.2.2.2.2.2.2.2.2.2.2.2.1 p.1.2.2.2.2.2.2.2.2.2.2.2.2.2.2.2.1 p.2.1, laws_szRecord_y p.1.1 p.1.2.1 p.1.2.2.1 p.1.2.2.2.1 p.1.2.2.2.2.1 p.1.2.2.2.2.2.1 p.1.2.2.2.2.2.2.1 p.1.2.2.2.2.2.2.2.1 p.1.2.2.2.2.2.2.2.2.1 p.1.2.2.2.2.2.2.2.2.2.1 p.1.2.2.2.2.2.2.2.2.2.2.1 p.1.2.2.2.2.2.2.2.2.2.2.2.1 p.1.2.2.2.2.2.2.2.2.2.2.2.2.1 p.1.2.2.2.2.2.2.2.2.2.2.2.2.2.1 p.1.2.2.2.2.2.2.2.2.2.2.2.2.2.2.1 p.1.2.2.2.2.2.2.2.2.2.2.2.2.2.2.2.1 p.2.1, laws_szRecord_l⟩
  cases hk

def G10 : Glob := G9.add 37 laws_szRecord_g

theorem G10_ok : GlobOk Try.prog G10 := G9_ok.add ⟨Try.f37, Try.func37, by kernel_rfl, by kernel_rfl⟩ laws_szRecord_c

/-! ### loop.example/g00327/laws.toRange -/

def laws_toRange_loops : Nat → Option LoopSpec
  | _ => none

theorem laws_toRange_x (a0 : ByteArray) (a1 : ByteArray) : execFn G10 laws_toRange_loops Try.f248 [.agg [.str a0, .str a1]] [] = laws_toRange_d (a0, a1) (fun (y : (ByteArray × ByteArray)) => some ⟨.ret, [.agg [.str y.1, .str y.2]], []⟩) := by kernel_rfl

theorem laws_toRange_y (a0 : ByteArray) (a1 : ByteArray) : execFn G10 laws_toRange_loops Try.f248 [.agg [.str a0, .str a1]] [] = laws_toRange_k (a0, a1) (fun (y : (ByteArray × ByteArray)) => some ⟨.ret, [.agg [.str y.1, .str y.2]], []⟩) := (laws_toRange_x a0 a1).trans (by rw [laws_toRange_e])

theorem laws_toRange_l : LoopsOk G10 ⟨0, 11, laws_toRange_loops⟩ (Try.f248.body.getD .skip) :=
  loopsOk_of (ids := []) (by kernel_rfl) (by kernel_rfl) trivial

theorem laws_toRange_c : Contract Try.prog 248 laws_toRange_g := by
  refine told G10_ok follows Try.func248 (c := Try.f248.body.getD .skip) (by kernel_rfl) ?_
  intro args s k r hk
  unfold laws_toRange_g at hk
  rcases onPats_inv hk with ⟨p, q, rfl, rfl⟩ | hk
  · exact ⟨laws_toRange_loops, laws_toRange_q p.1.1 p.1.2.1, laws_toRange_y p.1.1 p.1.2.1, laws_toRange_l⟩
  cases hk

def G11 : Glob := G10.add 248 laws_toRange_g

theorem G11_ok : GlobOk Try.prog G11 := G10_ok.add ⟨Try.f248, Try.func248, by kernel_rfl, by kernel_rfl⟩ laws_toRange_c

/-! ### loop.example/g00327/laws.toRangeS -/

def laws_toRangeS_loops : Nat → Option LoopSpec
  | 0 => some ⟨[0, 3, 4], [], fun vals st k => onPats [.lst tRange, .own 0, .int .i64] [.arr tRange] vals st (fun p q => loopK laws_toRangeS_b0 Fuel (p.1, p.2.2.1, q.1) (fun z => k (.exit 0) [.lst tRange z.1, .own 0, .int .i64 z.2.1] [.arr tRange z.2.2]))
      (none)⟩
  | _ => none

def laws_toRangeS_v0 : ((List dRange) × Int × (List dRange)) → List AV := (fun x => [.lst tRange x.1, .own 0, .int .i64 x.2.1])
def laws_toRangeS_s0 : ((List dRange) × Int × (List dRange)) → St := (fun x => [.arr tRange x.2.2])
def laws_toRangeS_e0 : ((List dRange) × Int × (List dRange)) → Out × List AV × St := (fun z => ((.exit 0), [.lst tRange z.1, .own 0, .int .i64 z.2.1], [.arr tRange z.2.2]))

theorem laws_toRangeS_bx0 (x : ((List dRange) × Int × (List dRange))) : exec G11 ⟨0, 23, laws_toRangeS_loops⟩ (loopBody Try.f182 0) (bodyK ⟨0, 23, laws_toRangeS_loops⟩ [0, 3, 4] []) (setEs (deads 23) [0, 3, 4] (laws_toRangeS_v0 x)) (laws_toRangeS_s0 x) = laws_toRangeS_b0 x (Sum.elim (fun y => some ⟨.norm, laws_toRangeS_v0 y, laws_toRangeS_s0 y⟩) fun z => some ⟨(laws_toRangeS_e0 z).1, (laws_toRangeS_e0 z).2.1, (laws_toRangeS_e0 z).2.2⟩) := by
  kernel_rfl

theorem laws_toRangeS_lo0 : ∀ sp, (laws_toRangeS_loops 0) = some sp → LoopOk G11 ⟨0, 23, laws_toRangeS_loops⟩ sp (loopBody Try.f182 0) := by
  intro sp hsp vals st k r h
  cases hsp
  dsimp only at h
  rcases onPats_inv2 h with ⟨p, q, rfl, rfl, h⟩ | h
  · exact loop_runs2 laws_toRangeS_bp0 laws_toRangeS_v0 laws_toRangeS_s0 laws_toRangeS_e0 (fun z => by (intro h; cases h)) laws_toRangeS_bx0 Fuel (p.1, p.2.2.1, q.1) _ k r (fun z => rfl) h
  cases h

theorem laws_toRangeS_x (a0 : (List dRange)) : execFn G11 laws_toRangeS_loops Try.f182 [.lst tRange a0] [] = laws_toRangeS_d a0 (fun (y : (List dRange)) => some ⟨.ret, [.own 0], [.arr tRange y]⟩) := by kernel_rfl

theorem laws_toRangeS_y (a0 : (List dRange)) : execFn G11 laws_toRangeS_loops Try.f182 [.lst tRange a0] [] = laws_toRangeS_k a0 (fun (y : (List dRange)) => some ⟨.ret, [.own 0], [.arr tRange y]⟩) := (laws_toRangeS_x a0).trans (by rw [laws_toRangeS_e])

theorem laws_toRangeS_l : LoopsOk G11 ⟨0, 23, laws_toRangeS_loops⟩ (Try.f182.body.getD .skip) :=
  loopsOk_of (ids := [0]) (by kernel_rfl) (by kernel_rfl) ⟨laws_toRangeS_lo0, trivial⟩

theorem laws_toRangeS_c : Contract Try.prog 182 laws_toRangeS_g := by
  refine told G11_ok follows Try.func182 (c := Try.f182.body.getD .skip) (by kernel_rfl) ?_
  intro args s k r hk
  unfold laws_toRangeS_g at hk
  rcases onPats_inv hk with ⟨p, q, rfl, rfl⟩ | hk
  · exact ⟨laws_toRangeS_loops, laws_toRangeS_q p.1, laws_toRangeS_y p.1, laws_toRangeS_l⟩
  cases hk

def G12 : Glob := G11.add 182 laws_toRangeS_g

theorem G12_ok : GlobOk Try.prog G12 := G11_ok.add ⟨Try.f182, Try.func182, by kernel_rfl, by kernel_rfl⟩ laws_toRangeS_c

/-! ### loop.example/g00327/laws.toWrite -/

def laws_toWrite_loops : Nat → Option LoopSpec
  | _ => none

theorem laws_toWrite_x (a0 : ByteArray) (a1 : ByteArray) (a2 : Bool) : execFn G12 laws_toWrite_loops Try.f249 [.agg [.str a0, .str a1, .bool a2]] [] = laws_toWrite_d (a0, (a1, a2)) (fun (y : (ByteArray × ByteArray × Bool)) => some ⟨.ret, [.agg [.str y.1, .str y.2.1, .bool y.2.2]], []⟩) := by kernel_rfl

theorem laws_toWrite_y (a0 : ByteArray) (a1 : ByteArray) (a2 : Bool) : execFn G12 laws_toWrite_loops Try.f249 [.agg [.str a0, .str a1, .bool a2]] [] = laws_toWrite_k (a0, (a1, a2)) (fun (y : (ByteArray × ByteArray × Bool)) => some ⟨.ret, [.agg [.str y.1, .str y.2.1, .bool y.2.2]], []⟩) := (laws_toWrite_x a0 a1 a2).trans (by rw [laws_toWrite_e])

theorem laws_toWrite_l : LoopsOk G12 ⟨0, 14, laws_toWrite_loops⟩ (Try.f249.body.getD .skip) :=
  loopsOk_of (ids := []) (by kernel_rfl) (by kernel_rfl) trivial

theorem laws_toWrite_c : Contract Try.prog 249 laws_toWrite_g := by
  refine told G12_ok follows Try.func249 (c := Try.f249.body.getD .skip) (by kernel_rfl) ?_
  intro args s k r hk
  unfold laws_toWrite_g at hk
  rcases onPats_inv hk with ⟨p, q, rfl, rfl⟩ | hk
  · exact ⟨laws_toWrite_loops, laws_toWrite_q p.1.1 p.1.2.1 p.1.2.2.1, laws_toWrite_y p.1.1 p.1.2.1 p.1.2.2.1, laws_toWrite_l⟩
  cases hk

def G13 : Glob := G12.add 249 laws_toWrite_g

theorem G13_ok : GlobOk Try.prog G13 := G12_ok.add ⟨Try.f249, Try.func249, by kernel_rfl, by kernel_rfl⟩ laws_toWrite_c

/-! ### loop.example/g00327/laws.toWriteS -/

def laws_toWriteS_loops : Nat → Option LoopSpec
  | 0 => some ⟨[0, 3, 4], [], fun vals st k => onPats [.lst tWrite, .own 0, .int .i64] [.arr tWrite] vals st (fun p q => loopK laws_toWriteS_b0 Fuel (p.1, p.2.2.1, q.1) (fun z => k (.exit 0) [.lst tWrite z.1, .own 0, .int .i64 z.2.1] [.arr tWrite z.2.2]))
      (none)⟩
  | _ => none

def laws_toWriteS_v0 : ((List dWrite) × Int × (List dWrite)) → List AV := (fun x => [.lst tWrite x.1, .own 0, .int .i64 x.2.1])
def laws_toWriteS_s0 : ((List dWrite) × Int × (List dWrite)) → St := (fun x => [.arr tWrite x.2.2])
def laws_toWriteS_e0 : ((List dWrite) × Int × (List dWrite)) → Out × List AV × St := (fun z => ((.exit 0), [.lst tWrite z.1, .own 0, .int .i64 z.2.1], [.arr tWrite z.2.2]))

theorem laws_toWriteS_bx0 (x : ((List dWrite) × Int × (List dWrite))) : exec G13 ⟨0, 23, laws_toWriteS_loops⟩ (loopBody Try.f183 0) (bodyK ⟨0, 23, laws_toWriteS_loops⟩ [0, 3, 4] []) (setEs (deads 23) [0, 3, 4] (laws_toWriteS_v0 x)) (laws_toWriteS_s0 x) = laws_toWriteS_b0 x (Sum.elim (fun y => some ⟨.norm, laws_toWriteS_v0 y, laws_toWriteS_s0 y⟩) fun z => some ⟨(laws_toWriteS_e0 z).1, (laws_toWriteS_e0 z).2.1, (laws_toWriteS_e0 z).2.2⟩) := by
  kernel_rfl

theorem laws_toWriteS_lo0 : ∀ sp, (laws_toWriteS_loops 0) = some sp → LoopOk G13 ⟨0, 23, laws_toWriteS_loops⟩ sp (loopBody Try.f183 0) := by
  intro sp hsp vals st k r h
  cases hsp
  dsimp only at h
  rcases onPats_inv2 h with ⟨p, q, rfl, rfl, h⟩ | h
  · exact loop_runs2 laws_toWriteS_bp0 laws_toWriteS_v0 laws_toWriteS_s0 laws_toWriteS_e0 (fun z => by (intro h; cases h)) laws_toWriteS_bx0 Fuel (p.1, p.2.2.1, q.1) _ k r (fun z => rfl) h
  cases h

theorem laws_toWriteS_x (a0 : (List dWrite)) : execFn G13 laws_toWriteS_loops Try.f183 [.lst tWrite a0] [] = laws_toWriteS_d a0 (fun (y : (List dWrite)) => some ⟨.ret, [.own 0], [.arr tWrite y]⟩) := by kernel_rfl

theorem laws_toWriteS_y (a0 : (List dWrite)) : execFn G13 laws_toWriteS_loops Try.f183 [.lst tWrite a0] [] = laws_toWriteS_k a0 (fun (y : (List dWrite)) => some ⟨.ret, [.own 0], [.arr tWrite y]⟩) := (laws_toWriteS_x a0).trans (by rw [laws_toWriteS_e])

theorem laws_toWriteS_l : LoopsOk G13 ⟨0, 23, laws_toWriteS_loops⟩ (Try.f183.body.getD .skip) :=
  loopsOk_of (ids := [0]) (by kernel_rfl) (by kernel_rfl) ⟨laws_toWriteS_lo0, trivial⟩

theorem laws_toWriteS_c : Contract Try.prog 183 laws_toWriteS_g := by
  refine told G13_ok follows Try.func183 (c := Try.f183.body.getD .skip) (by kernel_rfl) ?_
  intro args s k r hk
  unfold laws_toWriteS_g at hk
  rcases onPats_inv hk with ⟨p, q, rfl, rfl⟩ | hk
  · exact ⟨laws_toWriteS_loops, laws_toWriteS_q p.1, laws_toWriteS_y p.1, laws_toWriteS_l⟩
  cases hk

def G14 : Glob := G13.add 183 laws_toWriteS_g

theorem G14_ok : GlobOk Try.prog G14 := G13_ok.add ⟨Try.f183, Try.func183, by kernel_rfl, by kernel_rfl⟩ laws_toWriteS_c

/-! ### loop.example/g00327/laws.toTxn -/

def laws_toTxn_loops : Nat → Option LoopSpec
  | _ => none

theorem laws_toTxn_x (a0 : Int) (a1 : Int) (a2 : Int) (a3 : Int) (a4 : (List dRange)) (a5 : (List dWrite)) (a6 : Bool) (a7 : ByteArray) : execFn G14 laws_toTxn_loops Try.f98 [.agg [.int .i64 a0, .int .i64 a1, .int .i64 a2, .int .i64 a3, .lst tRange a4, .lst tWrite a5, .bool a6, .str a7]] [] = laws_toTxn_d (a0, (a1, (a2, (a3, (a4, (a5, (a6, a7))))))) (fun (y : (Int × Int × Int × Int × Bool × ByteArray × (List dRange) × (List dWrite))) => some ⟨.ret, [.agg [.int .i64 y.1, .int .i64 y.2.1, .int .i64 y.2.2.1, .int .i64 y.2.2.2.1, .own 0, .own 1, .bool y.2.2.2.2.1, .str y.2.2.2.2.2.1]], [.arr tRange y.2.2.2.2.2.2.1, .arr tWrite y.2.2.2.2.2.2.2]⟩) := by kernel_rfl

theorem laws_toTxn_y (a0 : Int) (a1 : Int) (a2 : Int) (a3 : Int) (a4 : (List dRange)) (a5 : (List dWrite)) (a6 : Bool) (a7 : ByteArray) : execFn G14 laws_toTxn_loops Try.f98 [.agg [.int .i64 a0, .int .i64 a1, .int .i64 a2, .int .i64 a3, .lst tRange a4, .lst tWrite a5, .bool a6, .str a7]] [] = laws_toTxn_k (a0, (a1, (a2, (a3, (a4, (a5, (a6, a7))))))) (fun (y : (Int × Int × Int × Int × Bool × ByteArray × (List dRange) × (List dWrite))) => some ⟨.ret, [.agg [.int .i64 y.1, .int .i64 y.2.1, .int .i64 y.2.2.1, .int .i64 y.2.2.2.1, .own 0, .own 1, .bool y.2.2.2.2.1, .str y.2.2.2.2.2.1]], [.arr tRange y.2.2.2.2.2.2.1, .arr tWrite y.2.2.2.2.2.2.2]⟩) := (laws_toTxn_x a0 a1 a2 a3 a4 a5 a6 a7).trans (by rw [laws_toTxn_e])

theorem laws_toTxn_l : LoopsOk G14 ⟨0, 31, laws_toTxn_loops⟩ (Try.f98.body.getD .skip) :=
  loopsOk_of (ids := []) (by kernel_rfl) (by kernel_rfl) trivial

theorem laws_toTxn_c : Contract Try.prog 98 laws_toTxn_g := by
  refine told G14_ok follows Try.func98 (c := Try.f98.body.getD .skip) (by kernel_rfl) ?_
  intro args s k r hk
  unfold laws_toTxn_g at hk
  rcases onPats_inv hk with ⟨p, q, rfl, rfl⟩ | hk
  · exact ⟨laws_toTxn_loops, laws_toTxn_q p.1.1 p.1.2.1 p.1.2.2.1 p.1.2.2.2.1 p.1.2.2.2.2.1 p.1.2.2.2.2.2.1 p.1.2.2.2.2.2.2.1 p.1.2.2.2.2.2.2.2.1, laws_toTxn_y p.1.1 p.1.2.1 p.1.2.2.1 p.1.2.2.2.1 p.1.2.2.2.2.1 p.1.2.2.2.2.2.1 p.1.2.2.2.2.2.2.1 p.1.2.2.2.2.2.2.2.1, laws_toTxn_l⟩
  cases hk

def G15 : Glob := G14.add 98 laws_toTxn_g

theorem G15_ok : GlobOk Try.prog G15 := G14_ok.add ⟨Try.f98, Try.func98, by kernel_rfl, by kernel_rfl⟩ laws_toTxn_c

/-! ### loop.example/g00327/laws.toVersion -/

def laws_toVersion_loops : Nat → Option LoopSpec
  | _ => none

theorem laws_toVersion_x (a0 : ByteArray) (a1 : ByteArray) (a2 : Bool) (a3 : Int) : execFn G15 laws_toVersion_loops Try.f194 [.agg [.str a0, .str a1, .bool a2, .int .i64 a3]] [] = laws_toVersion_d (a0, (a1, (a2, a3))) (fun (y : (ByteArray × ByteArray × Bool × Int)) => some ⟨.ret, [.agg [.str y.1, .str y.2.1, .bool y.2.2.1, .int .i64 y.2.2.2]], []⟩) := by kernel_rfl

theorem laws_toVersion_y (a0 : ByteArray) (a1 : ByteArray) (a2 : Bool) (a3 : Int) : execFn G15 laws_toVersion_loops Try.f194 [.agg [.str a0, .str a1, .bool a2, .int .i64 a3]] [] = laws_toVersion_k (a0, (a1, (a2, a3))) (fun (y : (ByteArray × ByteArray × Bool × Int)) => some ⟨.ret, [.agg [.str y.1, .str y.2.1, .bool y.2.2.1, .int .i64 y.2.2.2]], []⟩) := (laws_toVersion_x a0 a1 a2 a3).trans (by rw [laws_toVersion_e])

theorem laws_toVersion_l : LoopsOk G15 ⟨0, 17, laws_toVersion_loops⟩ (Try.f194.body.getD .skip) :=
  loopsOk_of (ids := []) (by kernel_rfl) (by kernel_rfl) trivial

theorem laws_toVersion_c : Contract Try.prog 194 laws_toVersion_g := by
  refine told G15_ok follows Try.func194 (c := Try.f194.body.getD .skip) (by kernel_rfl) ?_
  intro args s k r hk
  unfold laws_toVersion_g at hk
  rcases onPats_inv hk with ⟨p, q, rfl, rfl⟩ | hk
  · exact ⟨laws_toVersion_loops, laws_toVersion_q p.1.1 p.1.2.1 p.1.2.2.1 p.1.2.2.2.1, laws_toVersion_y p.1.1 p.1.2.1 p.1.2.2.1 p.1.2.2.2.1, laws_toVersion_l⟩
  cases hk

def G16 : Glob := G15.add 194 laws_toVersion_g

theorem G16_ok : GlobOk Try.prog G16 := G15_ok.add ⟨Try.f194, Try.func194, by kernel_rfl, by kernel_rfl⟩ laws_toVersion_c

/-! ### loop.example/g00327/laws.toVersionS -/

def laws_toVersionS_loops : Nat → Option LoopSpec
  | 0 => some ⟨[0, 3, 4], [], fun vals st k => onPats [.lst tVersion, .own 0, .int .i64] [.arr tVersion] vals st (fun p q => loopK laws_toVersionS_b0 Fuel (p.1, p.2.2.1, q.1) (fun z => k (.exit 0) [.lst tVersion z.1, .own 0, .int .i64 z.2.1] [.arr tVersion z.2.2]))
      (none)⟩
  | _ => none

def laws_toVersionS_v0 : ((List dVersion) × Int × (List dVersion)) → List AV := (fun x => [.lst tVersion x.1, .own 0, .int .i64 x.2.1])
def laws_toVersionS_s0 : ((List dVersion) × Int × (List dVersion)) → St := (fun x => [.arr tVersion x.2.2])
def laws_toVersionS_e0 : ((List dVersion) × Int × (List dVersion)) → Out × List AV × St := (fun z => ((.exit 0), [.lst tVersion z.1, .own 0, .int .i64 z.2.1], [.arr tVersion z.2.2]))

theorem laws_toVersionS_bx0 (x : ((List dVersion) × Int × (List dVersion))) : exec G16 ⟨0, 23, laws_toVersionS_loops⟩ (loopBody Try.f115 0) (bodyK ⟨0, 23, laws_toVersionS_loops⟩ [0, 3, 4] []) (setEs (deads 23) [0, 3, 4] (laws_toVersionS_v0 x)) (laws_toVersionS_s0 x) = laws_toVersionS_b0 x (Sum.elim (fun y => some ⟨.norm, laws_toVersionS_v0 y, laws_toVersionS_s0 y⟩) fun z => some ⟨(laws_toVersionS_e0 z).1, (laws_toVersionS_e0 z).2.1, (laws_toVersionS_e0 z).2.2⟩) := by
  kernel_rfl

theorem laws_toVersionS_lo0 : ∀ sp, (laws_toVersionS_loops 0) = some sp → LoopOk G16 ⟨0, 23, laws_toVersionS_loops⟩ sp (loopBody Try.f115 0) := by
  intro sp hsp vals st k r h
  cases hsp
  dsimp only at h
  rcases onPats_inv2 h with ⟨p, q, rfl, rfl, h⟩ | h
  · exact loop_runs2 laws_toVersionS_bp0 laws_toVersionS_v0 laws_toVersionS_s0 laws_toVersionS_e0 (fun z => by (intro h; cases h)) laws_toVersionS_bx0 Fuel (p.1, p.2.2.1, q.1) _ k r (fun z => rfl) h
  cases h

theorem laws_toVersionS_x (a0 : (List dVersion)) : execFn G16 laws_toVersionS_loops Try.f115 [.lst tVersion a0] [] = laws_toVersionS_d a0 (fun (y : (List dVersion)) => some ⟨.ret, [.own 0], [.arr tVersion y]⟩) := by kernel_rfl

theorem laws_toVersionS_y (a0 : (List dVersion)) : execFn G16 laws_toVersionS_loops Try.f115 [.lst tVersion a0] [] = laws_toVersionS_k a0 (fun (y : (List dVersion)) => some ⟨.ret, [.own 0], [.arr tVersion y]⟩) := (laws_toVersionS_x a0).trans (by rw [laws_toVersionS_e])

theorem laws_toVersionS_l : LoopsOk G16 ⟨0, 23, laws_toVersionS_loops⟩ (Try.f115.body.getD .skip) :=
  loopsOk_of (ids := [0]) (by kernel_rfl) (by kernel_rfl) ⟨laws_toVersionS_lo0, trivial⟩

theorem laws_toVersionS_c : Contract Try.prog 115 laws_toVersionS_g := by
  refine told G16_ok follows Try.func115 (c := Try.f115.body.getD .skip) (by kernel_rfl) ?_
  intro args s k r hk
  unfold laws_toVersionS_g at hk
  rcases onPats_inv hk with ⟨p, q, rfl, rfl⟩ | hk
  · exact ⟨laws_toVersionS_loops, laws_toVersionS_q p.1, laws_toVersionS_y p.1, laws_toVersionS_l⟩
  cases hk

def G17 : Glob := G16.add 115 laws_toVersionS_g

theorem G17_ok : GlobOk Try.prog G17 := G16_ok.add ⟨Try.f115, Try.func115, by kernel_rfl, by kernel_rfl⟩ laws_toVersionS_c

/-! ### loop.example/g00327/laws.toTxnS -/

def laws_toTxnS_loops : Nat → Option LoopSpec
  | 0 => some ⟨[0, 3, 4], [], fun vals st k => onPats [.lst tTxn, .own 0, .int .i64] [.arr tTxn] vals st (fun p q => loopK laws_toTxnS_b0 Fuel (p.1, p.2.2.1, q.1) (fun z => k (.exit 0) [.lst tTxn z.1, .own 0, .int .i64 z.2.1] [.arr tTxn z.2.2]))
      (none)⟩
  | _ => none

def laws_toTxnS_v0 : ((List dTxn) × Int × (List dTxn)) → List AV := (fun x => [.lst tTxn x.1, .own 0, .int .i64 x.2.1])
def laws_toTxnS_s0 : ((List dTxn) × Int × (List dTxn)) → St := (fun x => [.arr tTxn x.2.2])
def laws_toTxnS_e0 : ((List dTxn) × Int × (List dTxn)) → Out × List AV × St := (fun z => ((.exit 0), [.lst tTxn z.1, .own 0, .int .i64 z.2.1], [.arr tTxn z.2.2]))

theorem laws_toTxnS_bx0 (x : ((List dTxn) × Int × (List dTxn))) : exec G17 ⟨0, 23, laws_toTxnS_loops⟩ (loopBody Try.f49 0) (bodyK ⟨0, 23, laws_toTxnS_loops⟩ [0, 3, 4] []) (setEs (deads 23) [0, 3, 4] (laws_toTxnS_v0 x)) (laws_toTxnS_s0 x) = laws_toTxnS_b0 x (Sum.elim (fun y => some ⟨.norm, laws_toTxnS_v0 y, laws_toTxnS_s0 y⟩) fun z => some ⟨(laws_toTxnS_e0 z).1, (laws_toTxnS_e0 z).2.1, (laws_toTxnS_e0 z).2.2⟩) := by
  kernel_rfl

theorem laws_toTxnS_lo0 : ∀ sp, (laws_toTxnS_loops 0) = some sp → LoopOk G17 ⟨0, 23, laws_toTxnS_loops⟩ sp (loopBody Try.f49 0) := by
  intro sp hsp vals st k r h
  cases hsp
  dsimp only at h
  rcases onPats_inv2 h with ⟨p, q, rfl, rfl, h⟩ | h
  · exact loop_runs2 laws_toTxnS_bp0 laws_toTxnS_v0 laws_toTxnS_s0 laws_toTxnS_e0 (fun z => by (intro h; cases h)) laws_toTxnS_bx0 Fuel (p.1, p.2.2.1, q.1) _ k r (fun z => rfl) h
  cases h

theorem laws_toTxnS_x (a0 : (List dTxn)) : execFn G17 laws_toTxnS_loops Try.f49 [.lst tTxn a0] [] = laws_toTxnS_d a0 (fun (y : (List dTxn)) => some ⟨.ret, [.own 0], [.arr tTxn y]⟩) := by kernel_rfl

theorem laws_toTxnS_y (a0 : (List dTxn)) : execFn G17 laws_toTxnS_loops Try.f49 [.lst tTxn a0] [] = laws_toTxnS_k a0 (fun (y : (List dTxn)) => some ⟨.ret, [.own 0], [.arr tTxn y]⟩) := (laws_toTxnS_x a0).trans (by rw [laws_toTxnS_e])

theorem laws_toTxnS_l : LoopsOk G17 ⟨0, 23, laws_toTxnS_loops⟩ (Try.f49.body.getD .skip) :=
  loopsOk_of (ids := [0]) (by kernel_rfl) (by kernel_rfl) ⟨laws_toTxnS_lo0, trivial⟩

theorem laws_toTxnS_c : Contract Try.prog 49 laws_toTxnS_g := by
  refine told G17_ok follows Try.func49 (c := Try.f49.body.getD .skip) (by kernel_rfl) ?_
  intro args s k r hk
  unfold laws_toTxnS_g at hk
  rcases onPats_inv hk with ⟨p, q, rfl, rfl⟩ | hk
  · exact ⟨laws_toTxnS_loops, laws_toTxnS_q p.1, laws_toTxnS_y p.1, laws_toTxnS_l⟩
  cases hk

def G18 : Glob := G17.add 49 laws_toTxnS_g

theorem G18_ok : GlobOk Try.prog G18 := G17_ok.add ⟨Try.f49, Try.func49, by kernel_rfl, by kernel_rfl⟩ laws_toTxnS_c

/-! ### loop.example/g00327/laws.toBase -/

def laws_toBase_loops : Nat → Option LoopSpec
  | _ => none

theorem laws_toBase_x (a0 : (List dVersion)) (a1 : (List dTxn)) (a2 : (List dTxn)) (a3 : Int) (a4 : Int) : execFn G18 laws_toBase_loops Try.f48 [.agg [.lst tVersion a0, .lst tTxn a1, .lst tTxn a2, .int .i64 a3, .int .i64 a4]] [] = laws_toBase_d (a0, (a1, (a2, (a3, a4)))) (fun (y : (Int × Int × (List dVersion) × (List dTxn) × (List dTxn))) => some ⟨.ret, [.agg [.own 0, .own 1, .own 2, .int .i64 y.1, .int .i64 y.2.1]], [.arr tVersion y.2.2.1, .arr tTxn y.2.2.2.1, .arr tTxn y.2.2.2.2]⟩) := by kernel_rfl

theorem laws_toBase_y (a0 : (List dVersion)) (a1 : (List dTxn)) (a2 : (List dTxn)) (a3 : Int) (a4 : Int) : execFn G18 laws_toBase_loops Try.f48 [.agg [.lst tVersion a0, .lst tTxn a1, .lst tTxn a2, .int .i64 a3, .int .i64 a4]] [] = laws_toBase_k (a0, (a1, (a2, (a3, a4)))) (fun (y : (Int × Int × (List dVersion) × (List dTxn) × (List dTxn))) => some ⟨.ret, [.agg [.own 0, .own 1, .own 2, .int .i64 y.1, .int .i64 y.2.1]], [.arr tVersion y.2.2.1, .arr tTxn y.2.2.2.1, .arr tTxn y.2.2.2.2]⟩) := (laws_toBase_x a0 a1 a2 a3 a4).trans (by rw [laws_toBase_e])

theorem laws_toBase_l : LoopsOk G18 ⟨0, 23, laws_toBase_loops⟩ (Try.f48.body.getD .skip) :=
  loopsOk_of (ids := []) (by kernel_rfl) (by kernel_rfl) trivial

theorem laws_toBase_c : Contract Try.prog 48 laws_toBase_g := by
  refine told G18_ok follows Try.func48 (c := Try.f48.body.getD .skip) (by kernel_rfl) ?_
  intro args s k r hk
  unfold laws_toBase_g at hk
  rcases onPats_inv hk with ⟨p, q, rfl, rfl⟩ | hk
  · exact ⟨laws_toBase_loops, laws_toBase_q p.1.1 p.1.2.1 p.1.2.2.1 p.1.2.2.2.1 p.1.2.2.2.2.1, laws_toBase_y p.1.1 p.1.2.1 p.1.2.2.1 p.1.2.2.2.1 p.1.2.2.2.2.1, laws_toBase_l⟩
  cases hk

def G19 : Glob := G18.add 48 laws_toBase_g

theorem G19_ok : GlobOk Try.prog G19 := G18_ok.add ⟨Try.f48, Try.func48, by kernel_rfl, by kernel_rfl⟩ laws_toBase_c

/-! ### loop.example/g00327/laws.toRecord -/

def laws_toRecord_loops : Nat → Option LoopSpec
  | _ => none

theorem laws_toRecord_x (a0 : Int) (a1 : Int) (a2 : Int) (a3 : Int) (a4 : Int) (a5 : (List dRange)) (a6 : (List dWrite)) (a7 : Bool) (a8 : ByteArray) (a9 : ByteArray) (a10 : Bool) (a11 : (List dVersion)) (a12 : (List dTxn)) (a13 : (List dTxn)) (a14 : Int) (a15 : Int) : execFn G19 laws_toRecord_loops Try.f39 [.agg [.int .i64 a0, .int .i64 a1, .int .i64 a2, .int .i64 a3, .int .i64 a4, .lst tRange a5, .lst tWrite a6, .bool a7, .str a8, .str a9, .bool a10, .lst tVersion a11, .lst tTxn a12, .lst tTxn a13, .int .i64 a14, .int .i64 a15]] [] = laws_toRecord_d (a0, ((a1, (a2, (a3, (a4, (a5, (a6, (a7, a8))))))), (a9, (a10, (a11, (a12, (a13, (a14, a15)))))))) (fun (y : (Int × Int × Int × Int × Int × Bool × ByteArray × ByteArray × Bool × Int × Int × (List dRange) × (List dWrite) × (List dVersion) × (List dTxn) × (List dTxn))) => some ⟨.ret, [.agg [.int .i64 y.1, .int .i64 y.2.1, .int .i64 y.2.2.1, .int .i64 y.2.2.2.1, .int .i64 y.2.2.2.2.1, .own 0, .own 1, .bool y.2.2.2.2.2.1, .str y.2.2.2.2.2.2.1, .str y.2.2.2.2.2.2.2.1, .bool y.2.2.2.2.2.2.2.2.1, .own 2, .own 3, .own 4, .int .i64 y.2.2.2.2.2.2.2.2.2.1, .int .i64 y.2.2.2.2.2.2.2.2.2.2.1]], [.arr tRange y.2.2.2.2.2.2.2.2.2.2.2.1, .arr tWrite y.2.2.2.2.2.2.2.2.2.2.2.2.1, .arr tVersion y.2.2.2.2.2.2.2.2.2.2.2.2.2.1, .arr tTxn y.2.2.2.2.2.2.2.2.2.2.2.2.2.2.1, .arr tTxn y.2.2.2.2.2.2.2.2.2.2.2.2.2.2.2]⟩) := by kernel_rfl

theorem laws_toRecord_y (a0 : Int) (a1 : Int) (a2 : Int) (a3 : Int) (a4 : Int) (a5 : (List dRange)) (a6 : (List dWrite)) (a7 : Bool) (a8 : ByteArray) (a9 : ByteArray) (a10 : Bool) (a11 : (List dVersion)) (a12 : (List dTxn)) (a13 : (List dTxn)) (a14 : Int) (a15 : Int) : execFn G19 laws_toRecord_loops Try.f39 [.agg [.int .i64 a0, .int .i64 a1, .int .i64 a2, .int .i64 a3, .int .i64 a4, .lst tRange a5, .lst tWrite a6, .bool a7, .str a8, .str a9, .bool a10, .lst tVersion a11, .lst tTxn a12, .lst tTxn a13, .int .i64 a14, .int .i64 a15]] [] = laws_toRecord_k (a0, ((a1, (a2, (a3, (a4, (a5, (a6, (a7, a8))))))), (a9, (a10, (a11, (a12, (a13, (a14, a15)))))))) (fun (y : (Int × Int × Int × Int × Int × Bool × ByteArray × ByteArray × Bool × Int × Int × (List dRange) × (List dWrite) × (List dVersion) × (List dTxn) × (List dTxn))) => some ⟨.ret, [.agg [.int .i64 y.1, .int .i64 y.2.1, .int .i64 y.2.2.1, .int .i64 y.2.2.2.1, .int .i64 y.2.2.2.2.1, .own 0, .own 1, .bool y.2.2.2.2.2.1, .str y.2.2.2.2.2.2.1, .str y.2.2.2.2.2.2.2.1, .bool y.2.2.2.2.2.2.2.2.1, .own 2, .own 3, .own 4, .int .i64 y.2.2.2.2.2.2.2.2.2.1, .int .i64 y.2.2.2.2.2.2.2.2.2.2.1]], [.arr tRange y.2.2.2.2.2.2.2.2.2.2.2.1, .arr tWrite y.2.2.2.2.2.2.2.2.2.2.2.2.1, .arr tVersion y.2.2.2.2.2.2.2.2.2.2.2.2.2.1, .arr tTxn y.2.2.2.2.2.2.2.2.2.2.2.2.2.2.1, .arr tTxn y.2.2.2.2.2.2.2.2.2.2.2.2.2.2.2]⟩) := (laws_toRecord_x a0 a1 a2 a3 a4 a5 a6 a7 a8 a9 a10 a11 a12 a13 a14 a15).trans (by rw [laws_toRecord_e])

theorem laws_toRecord_l : LoopsOk G19 ⟨0, 22, laws_toRecord_loops⟩ (Try.f39.body.getD .skip) :=
  loopsOk_of (ids := []) (by kernel_rfl) (by kernel_rfl) trivial

theorem laws_toRecord_c : Contract Try.prog 39 laws_toRecord_g := by
  refine told G19_ok follows Try.func39 (c := Try.f39.body.getD .skip) (by kernel_rfl) ?_
  intro args s k r hk
  unfold laws_toRecord_g at hk
  rcases onPats_inv hk with ⟨p, q, rfl, rfl⟩ | hk
  · exact ⟨laws_toRecord_loops, laws_toRecord_q p.1.1 p.1.2.1 p.1.2.2.1 p.1.2.2.2.1 p.1.2.2.2.2.1 p.1.2.2.2.2.2.1 p.1.2.2.2.2.2.2.1 p.1.2.2.2.2.2.2.2.1 p.1.2.2.2.2.2.2.2.2.1 p.1.2.2.2.2.2.2.2.2.2.1 p.1.2.2.2.2.2.2.2.2.2.2.1 p.1.2.2.2.2.2.2.2.2.2.2.2.1 p.1.2.2.2.2.2.2.2.2.2.2.2.2.1 p.1.2.2.2.2.2.2.2.2.2.2.2.2.2.1 p.1.2.2.2.2.2.2.2.2.2.2.2.2.2.2.1 p.1.2.2.2.2.2.2.2.2.2.2.2.2.2.2.2.1, laws_toRecord_y p.1.1 p.1.2.1 p.1.2.2.1 p.1.2.2.2.1 p.1.2.2.2.2.1 p.1.2.2.2.2.2.1 p.1.2.2.2.2.2.2.1 p.1.2.2.2.2.2.2.2.1 p.1.2.2.2.2.2.2.2.2.1 p.1.2.2.2.2.2.2.2.2.2.1 p.1.2.2.2.2.2.2.2.2.2.2.1 p.1.2.2.2.2.2.2.2.2.2.2.2.1 p.1.2.2.2.2.2.2.2.2.2.2.2.2.1 p.1.2.2.2.2.2.2.2.2.2.2.2.2.2.1 p.1.2.2.2.2.2.2.2.2.2.2.2.2.2.2.1 p.1.2.2.2.2.2.2.2.2.2.2.2.2.2.2.2.1, laws_toRecord_l⟩
  cases hk

def G20 : Glob := G19.add 39 laws_toRecord_g

theorem G20_ok : GlobOk Try.prog G20 := G19_ok.add ⟨Try.f39, Try.func39, by kernel_rfl, by kernel_rfl⟩ laws_toRecord_c

/-! ### loop.example/g00327/spec.l01In -/

def spec_l01In_loops : Nat → Option LoopSpec
  | _ => none

theorem spec_l01In_x (a0 : Int) (a1 : Int) (a2 : Int) : execFn G20 spec_l01In_loops Try.f94 [.int .i64 a0, .int .i64 a1, .int .i64 a2] [] = spec_l01In_d a0 a1 a2 (fun (y : Bool) => some ⟨.ret, [.bool y], []⟩) := by kernel_rfl

theorem spec_l01In_y (a0 : Int) (a1 : Int) (a2 : Int) : execFn G20 spec_l01In_loops Try.f94 [.int .i64 a0, .int .i64 a1, .int .i64 a2] [] = spec_l01In_k a0 a1 a2 (fun (y : Bool) => some ⟨.ret, [.bool y], []⟩) := (spec_l01In_x a0 a1 a2).trans (by rw [spec_l01In_e])

theorem spec_l01In_l : LoopsOk G20 ⟨0, 15, spec_l01In_loops⟩ (Try.f94.body.getD .skip) :=
  loopsOk_of (ids := []) (by kernel_rfl) (by kernel_rfl) trivial

theorem spec_l01In_c : Contract Try.prog 94 spec_l01In_g := by
  refine told G20_ok follows Try.func94 (c := Try.f94.body.getD .skip) (by kernel_rfl) ?_
  intro args s k r hk
  unfold spec_l01In_g at hk
  rcases onPats_inv hk with ⟨p, q, rfl, rfl⟩ | hk
  · exact ⟨spec_l01In_loops, spec_l01In_q p.1 p.2.1 p.2.2.1, spec_l01In_y p.1 p.2.1 p.2.2.1, spec_l01In_l⟩
  cases hk

def G21 : Glob := G20.add 94 spec_l01In_g

theorem G21_ok : GlobOk Try.prog G21 := G20_ok.add ⟨Try.f94, Try.func94, by kernel_rfl, by kernel_rfl⟩ spec_l01In_c

/-! ### loop.example/g00327/spec.KeyOk -/

def spec_KeyOk_loops : Nat → Option LoopSpec
  | 0 => some ⟨[0, 2, 3], [], fun vals st k => onPats [.str, .bool, .int .i64] [] vals st (fun p q => loopK spec_KeyOk_b0 Fuel (p.1, p.2.1, p.2.2.1) (Sum.elim (fun z => k .ret [.str z.1, .bool z.2.1, .int .i64 z.2.2] []) (fun z => k (.exit 0) [.str z.1, .bool z.2.1, .int .i64 z.2.2] [])))
      (none)⟩
  | _ => none

def spec_KeyOk_v0 : (ByteArray × Bool × Int) → List AV := (fun x => [.str x.1, .bool x.2.1, .int .i64 x.2.2])
def spec_KeyOk_s0 : (ByteArray × Bool × Int) → St := (fun x => [])
def spec_KeyOk_e0 : ((ByteArray × Bool × Int) ⊕ (ByteArray × Bool × Int)) → Out × List AV × St := (Sum.elim (fun z => (.ret, [.str z.1, .bool z.2.1, .int .i64 z.2.2], [])) (fun z => ((.exit 0), [.str z.1, .bool z.2.1, .int .i64 z.2.2], [])))

theorem spec_KeyOk_bx0 (x : (ByteArray × Bool × Int)) : exec G21 ⟨0, 23, spec_KeyOk_loops⟩ (loopBody Try.f96 0) (bodyK ⟨0, 23, spec_KeyOk_loops⟩ [0, 2, 3] []) (setEs (deads 23) [0, 2, 3] (spec_KeyOk_v0 x)) (spec_KeyOk_s0 x) = spec_KeyOk_b0 x (Sum.elim (fun y => some ⟨.norm, spec_KeyOk_v0 y, spec_KeyOk_s0 y⟩) fun z => some ⟨(spec_KeyOk_e0 z).1, (spec_KeyOk_e0 z).2.1, (spec_KeyOk_e0 z).2.2⟩) := by
  kernel_rfl

theorem spec_KeyOk_lo0 : ∀ sp, (spec_KeyOk_loops 0) = some sp → LoopOk G21 ⟨0, 23, spec_KeyOk_loops⟩ sp (loopBody Try.f96 0) := by
  intro sp hsp vals st k r h
  cases hsp
  dsimp only at h
  rcases onPats_inv2 h with ⟨p, q, rfl, rfl, h⟩ | h
  · exact loop_runs2 spec_KeyOk_bp0 spec_KeyOk_v0 spec_KeyOk_s0 spec_KeyOk_e0 (fun z => by rcases z with z | z <;> (intro h; cases h)) spec_KeyOk_bx0 Fuel (p.1, p.2.1, p.2.2.1) _ k r (fun z => by rcases z with z | z <;> rfl) h
  cases h

theorem spec_KeyOk_x (a0 : ByteArray) : execFn G21 spec_KeyOk_loops Try.f96 [.str a0] [] = spec_KeyOk_d a0 (fun (y : Bool) => some ⟨.ret, [.bool y], []⟩) := by kernel_rfl

theorem spec_KeyOk_y (a0 : ByteArray) : execFn G21 spec_KeyOk_loops Try.f96 [.str a0] [] = spec_KeyOk_k a0 (fun (y : Bool) => some ⟨.ret, [.bool y], []⟩) := (spec_KeyOk_x a0).trans (by rw [spec_KeyOk_e])

theorem spec_KeyOk_l : LoopsOk G21 ⟨0, 23, spec_KeyOk_loops⟩ (Try.f96.body.getD .skip) :=
  loopsOk_of (ids := [0]) (by kernel_rfl) (by kernel_rfl) ⟨spec_KeyOk_lo0, trivial⟩

theorem spec_KeyOk_c : Contract Try.prog 96 spec_KeyOk_g := by
  refine told G21_ok follows Try.func96 (c := Try.f96.body.getD .skip) (by kernel_rfl) ?_
  intro args s k r hk
  unfold spec_KeyOk_g at hk
  rcases onPats_inv hk with ⟨p, q, rfl, rfl⟩ | hk
  · exact ⟨spec_KeyOk_loops, spec_KeyOk_q p.1, spec_KeyOk_y p.1, spec_KeyOk_l⟩
  cases hk

def G22 : Glob := G21.add 96 spec_KeyOk_g

theorem G22_ok : GlobOk Try.prog G22 := G21_ok.add ⟨Try.f96, Try.func96, by kernel_rfl, by kernel_rfl⟩ spec_KeyOk_c

/-! ### loop.example/g00327/spec.WriteOk -/

def spec_WriteOk_loops : Nat → Option LoopSpec
  | _ => none

theorem spec_WriteOk_x (a0 : ByteArray) (a1 : ByteArray) (a2 : Bool) : execFn G22 spec_WriteOk_loops Try.f231 [.agg [.str a0, .str a1, .bool a2]] [] = spec_WriteOk_d (a0, (a1, a2)) (fun (y : Bool) => some ⟨.ret, [.bool y], []⟩) := by kernel_rfl

theorem spec_WriteOk_y (a0 : ByteArray) (a1 : ByteArray) (a2 : Bool) : execFn G22 spec_WriteOk_loops Try.f231 [.agg [.str a0, .str a1, .bool a2]] [] = spec_WriteOk_k (a0, (a1, a2)) (fun (y : Bool) => some ⟨.ret, [.bool y], []⟩) := (spec_WriteOk_x a0 a1 a2).trans (by rw [spec_WriteOk_e])

theorem spec_WriteOk_l : LoopsOk G22 ⟨0, 22, spec_WriteOk_loops⟩ (Try.f231.body.getD .skip) :=
  loopsOk_of (ids := []) (by kernel_rfl) (by kernel_rfl) trivial

theorem spec_WriteOk_c : Contract Try.prog 231 spec_WriteOk_g := by
  refine told G22_ok follows Try.func231 (c := Try.f231.body.getD .skip) (by kernel_rfl) ?_
  intro args s k r hk
  unfold spec_WriteOk_g at hk
  rcases onPats_inv hk with ⟨p, q, rfl, rfl⟩ | hk
  · exact ⟨spec_WriteOk_loops, spec_WriteOk_q p.1.1 p.1.2.1 p.1.2.2.1, spec_WriteOk_y p.1.1 p.1.2.1 p.1.2.2.1, spec_WriteOk_l⟩
  cases hk

def G23 : Glob := G22.add 231 spec_WriteOk_g

theorem G23_ok : GlobOk Try.prog G23 := G22_ok.add ⟨Try.f231, Try.func231, by kernel_rfl, by kernel_rfl⟩ spec_WriteOk_c

/-! ### loop.example/g00327/spec.WritesOk -/

def spec_WritesOk_loops : Nat → Option LoopSpec
  | 0 => some ⟨[0, 2, 3], [], fun vals st k => onPats [.lst tWrite, .bool, .int .i64] [] vals st (fun p q => loopK spec_WritesOk_b0 Fuel (p.1, p.2.1, p.2.2.1) (Sum.elim (fun z => k .ret [.lst tWrite z.1, .bool z.2.1, .int .i64 z.2.2] []) (fun z => k (.exit 0) [.lst tWrite z.1, .bool z.2.1, .int .i64 z.2.2] [])))
      (none)⟩
  | 2000004 => some ⟨[0, 2, 4, 6, 9, 10, 12, 14, 16, 18, 20, 22, 24, 26, 28, 30, 32, 34, 36, 38, 40, 42, 44, 46], [], fun _ _ _ => none⟩
  | _ => none

def spec_WritesOk_v0 : ((List dWrite) × Bool × Int) → List AV := (fun x => [.lst tWrite x.1, .bool x.2.1, .int .i64 x.2.2])
def spec_WritesOk_s0 : ((List dWrite) × Bool × Int) → St := (fun x => [])
def spec_WritesOk_e0 : (((List dWrite) × Bool × Int) ⊕ ((List dWrite) × Bool × Int)) → Out × List AV × St := (Sum.elim (fun z => (.ret, [.lst tWrite z.1, .bool z.2.1, .int .i64 z.2.2], [])) (fun z => ((.exit 0), [.lst tWrite z.1, .bool z.2.1, .int .i64 z.2.2], [])))

theorem spec_WritesOk_bx0 (x : ((List dWrite) × Bool × Int)) : exec G23 ⟨0, 37, spec_WritesOk_loops⟩ (loopBody Try.f165 0) (bodyK ⟨0, 37, spec_WritesOk_loops⟩ [0, 2, 3] []) (setEs (deads 37) [0, 2, 3] (spec_WritesOk_v0 x)) (spec_WritesOk_s0 x) = spec_WritesOk_b0 x (Sum.elim (fun y => some ⟨.norm, spec_WritesOk_v0 y, spec_WritesOk_s0 y⟩) fun z => some ⟨(spec_WritesOk_e0 z).1, (spec_WritesOk_e0 z).2.1, (spec_WritesOk_e0 z).2.2⟩) := by
  kernel_rfl

theorem spec_WritesOk_lo0 : ∀ sp, (spec_WritesOk_loops 0) = some sp → LoopOk G23 ⟨0, 37, spec_WritesOk_loops⟩ sp (loopBody Try.f165 0) := by
  intro sp hsp vals st k r h
  cases hsp
  dsimp only at h
  rcases onPats_inv2 h with ⟨p, q, rfl, rfl, h⟩ | h
  · exact loop_runs2 spec_WritesOk_bp0 spec_WritesOk_v0 spec_WritesOk_s0 spec_WritesOk_e0 (fun z => by rcases z with z | z <;> (intro h; cases h)) spec_WritesOk_bx0 Fuel (p.1, p.2.1, p.2.2.1) _ k r (fun z => by rcases z with z | z <;> rfl) h
  cases h

theorem spec_WritesOk_x (a0 : (List dWrite)) : execFn G23 spec_WritesOk_loops Try.f165 [.lst tWrite a0] [] = spec_WritesOk_d a0 (fun (y : Bool) => some ⟨.ret, [.bool y], []⟩) := by kernel_rfl

theorem spec_WritesOk_y (a0 : (List dWrite)) : execFn G23 spec_WritesOk_loops Try.f165 [.lst tWrite a0] [] = spec_WritesOk_k a0 (fun (y : Bool) => some ⟨.ret, [.bool y], []⟩) := (spec_WritesOk_x a0).trans (by rw [spec_WritesOk_e])

theorem spec_WritesOk_l : LoopsOk G23 ⟨0, 37, spec_WritesOk_loops⟩ (Try.f165.body.getD .skip) :=
  loopsOk_of (ids := [0]) (by kernel_rfl) (by kernel_rfl) ⟨spec_WritesOk_lo0, trivial⟩

theorem spec_WritesOk_c : Contract Try.prog 165 spec_WritesOk_g := by
  refine told G23_ok follows Try.func165 (c := Try.f165.body.getD .skip) (by kernel_rfl) ?_
  intro args s k r hk
  unfold spec_WritesOk_g at hk
  rcases onPats_inv hk with ⟨p, q, rfl, rfl⟩ | hk
  · exact ⟨spec_WritesOk_loops, spec_WritesOk_q p.1, spec_WritesOk_y p.1, spec_WritesOk_l⟩
  cases hk

def G24 : Glob := G23.add 165 spec_WritesOk_g

theorem G24_ok : GlobOk Try.prog G24 := G23_ok.add ⟨Try.f165, Try.func165, by kernel_rfl, by kernel_rfl⟩ spec_WritesOk_c

/-! ### loop.example/g00327/spec.RangeOk -/

def spec_RangeOk_loops : Nat → Option LoopSpec
  | _ => none

theorem spec_RangeOk_x (a0 : ByteArray) (a1 : ByteArray) : execFn G24 spec_RangeOk_loops Try.f166 [.agg [.str a0, .str a1]] [] = spec_RangeOk_d (a0, a1) (fun (y : Bool) => some ⟨.ret, [.bool y], []⟩) := by kernel_rfl

theorem spec_RangeOk_y (a0 : ByteArray) (a1 : ByteArray) : execFn G24 spec_RangeOk_loops Try.f166 [.agg [.str a0, .str a1]] [] = spec_RangeOk_k (a0, a1) (fun (y : Bool) => some ⟨.ret, [.bool y], []⟩) := (spec_RangeOk_x a0 a1).trans (by rw [spec_RangeOk_e])

theorem spec_RangeOk_l : LoopsOk G24 ⟨0, 18, spec_RangeOk_loops⟩ (Try.f166.body.getD .skip) :=
  loopsOk_of (ids := []) (by kernel_rfl) (by kernel_rfl) trivial

theorem spec_RangeOk_c : Contract Try.prog 166 spec_RangeOk_g := by
  refine told G24_ok follows Try.func166 (c := Try.f166.body.getD .skip) (by kernel_rfl) ?_
  intro args s k r hk
  unfold spec_RangeOk_g at hk
  rcases onPats_inv hk with ⟨p, q, rfl, rfl⟩ | hk
  · exact ⟨spec_RangeOk_loops, spec_RangeOk_q p.1.1 p.1.2.1, spec_RangeOk_y p.1.1 p.1.2.1, spec_RangeOk_l⟩
  cases hk

def G25 : Glob := G24.add 166 spec_RangeOk_g

theorem G25_ok : GlobOk Try.prog G25 := G24_ok.add ⟨Try.f166, Try.func166, by kernel_rfl, by kernel_rfl⟩ spec_RangeOk_c

/-! ### loop.example/g00327/spec.TxnOk -/

def spec_TxnOk_loops : Nat → Option LoopSpec
  | 5000012 => some ⟨[1, 2], [], fun vals st k => onPats [.bp 0 0, .bool] [.box [.int .i64, .int .i64, .int .i64, .int .i64, .lst tRange, .lst tWrite, .bool, .str]] vals st (fun p q => spec_TxnOk_j5000012 (p.2.1, q.1.1, q.1.2.1, q.1.2.2.1, q.1.2.2.2.1, q.1.2.2.2.2.1, q.1.2.2.2.2.2.1, q.1.2.2.2.2.2.2.1, q.1.2.2.2.2.2.2.2.1) (fun z => k .ret [.bp 0 0, .bool z.1] [.box [.int .i64 z.2.1, .int .i64 z.2.2.1, .int .i64 z.2.2.2.1, .int .i64 z.2.2.2.2.1, .lst tRange z.2.2.2.2.2.1, .lst tWrite z.2.2.2.2.2.2.1, .bool z.2.2.2.2.2.2.2.1, .str z.2.2.2.2.2.2.2.2]]))
      (none)⟩
  | 5000010 => some ⟨[1, 2], [], fun vals st k => onPats [.bp 0 0, .bool] [.box [.int .i64, .int .i64, .int .i64, .int .i64, .lst tRange, .lst tWrite, .bool, .str]] vals st (fun p q => spec_TxnOk_j5000010 (p.2.1, q.1.1, q.1.2.1, q.1.2.2.1, q.1.2.2.2.1, q.1.2.2.2.2.1, q.1.2.2.2.2.2.1, q.1.2.2.2.2.2.2.1, q.1.2.2.2.2.2.2.2.1) (fun z => k .ret [.bp 0 0, .bool z.1] [.box [.int .i64 z.2.1, .int .i64 z.2.2.1, .int .i64 z.2.2.2.1, .int .i64 z.2.2.2.2.1, .lst tRange z.2.2.2.2.2.1, .lst tWrite z.2.2.2.2.2.2.1, .bool z.2.2.2.2.2.2.2.1, .str z.2.2.2.2.2.2.2.2]]))
      (none)⟩
  | 0 => some ⟨[1, 2, 3], [], fun vals st k => onPats [.bp 0 0, .bool, .int .i64] [.box [.int .i64, .int .i64, .int .i64, .int .i64, .lst tRange, .lst tWrite, .bool, .str]] vals st (fun p q => loopK spec_TxnOk_b0 Fuel (p.2.1, p.2.2.1, q.1.1, q.1.2.1, q.1.2.2.1, q.1.2.2.2.1, q.1.2.2.2.2.1, q.1.2.2.2.2.2.1, q.1.2.2.2.2.2.2.1, q.1.2.2.2.2.2.2.2.1) (Sum.elim (fun z => k .ret [.bp 0 0, .bool z.1, .int .i64 z.2.1] [.box [.int .i64 z.2.2.1, .int .i64 z.2.2.2.1, .int .i64 z.2.2.2.2.1, .int .i64 z.2.2.2.2.2.1, .lst tRange z.2.2.2.2.2.2.1, .lst tWrite z.2.2.2.2.2.2.2.1, .bool z.2.2.2.2.2.2.2.2.1, .str z.2.2.2.2.2.2.2.2.2]]) (fun z => k (.exit 0) [.bp 0 0, .bool z.1, .int .i64 z.2.1] [.box [.int .i64 z.2.2.1, .int .i64 z.2.2.2.1, .int .i64 z.2.2.2.2.1, .int .i64 z.2.2.2.2.2.1, .lst tRange z.2.2.2.2.2.2.1, .lst tWrite z.2.2.2.2.2.2.2.1, .bool z.2.2.2.2.2.2.2.2.1, .str z.2.2.2.2.2.2.2.2.2]])))
      (none)⟩
  | 5000003 => some ⟨[1, 2], [], fun vals st k => onPats [.bp 0 0, .bool] [.box [.int .i64, .int .i64, .int .i64, .int .i64, .lst tRange, .lst tWrite, .bool, .str]] vals st (fun p q => spec_TxnOk_j5000003 (p.2.1, q.1.1, q.1.2.1, q.1.2.2.1, q.1.2.2.2.1, q.1.2.2.2.2.1, q.1.2.2.2.2.2.1, q.1.2.2.2.2.2.2.1, q.1.2.2.2.2.2.2.2.1) (fun z => k .ret [.bp 0 0, .bool z.1] [.box [.int .i64 z.2.1, .int .i64 z.2.2.1, .int .i64 z.2.2.2.1, .int .i64 z.2.2.2.2.1, .lst tRange z.2.2.2.2.2.1, .lst tWrite z.2.2.2.2.2.2.1, .bool z.2.2.2.2.2.2.2.1, .str z.2.2.2.2.2.2.2.2]]))
      (none)⟩
  | _ => none

def spec_TxnOk_jv5000012 : (Bool × Int × Int × Int × Int × (List dRange) × (List dWrite) × Bool × ByteArray) → List AV := (fun x => [.bp 0 0, .bool x.1])
def spec_TxnOk_js5000012 : (Bool × Int × Int × Int × Int × (List dRange) × (List dWrite) × Bool × ByteArray) → St := (fun x => [.box [.int .i64 x.2.1, .int .i64 x.2.2.1, .int .i64 x.2.2.2.1, .int .i64 x.2.2.2.2.1, .lst tRange x.2.2.2.2.2.1, .lst tWrite x.2.2.2.2.2.2.1, .bool x.2.2.2.2.2.2.2.1, .str x.2.2.2.2.2.2.2.2]])
def spec_TxnOk_je5000012 : (Bool × Int × Int × Int × Int × (List dRange) × (List dWrite) × Bool × ByteArray) → Out × List AV × St := (fun z => (.ret, [.bp 0 0, .bool z.1], [.box [.int .i64 z.2.1, .int .i64 z.2.2.1, .int .i64 z.2.2.2.1, .int .i64 z.2.2.2.2.1, .lst tRange z.2.2.2.2.2.1, .lst tWrite z.2.2.2.2.2.2.1, .bool z.2.2.2.2.2.2.2.1, .str z.2.2.2.2.2.2.2.2]]))

theorem spec_TxnOk_jx5000012 (x : (Bool × Int × Int × Int × Int × (List dRange) × (List dWrite) × Bool × ByteArray)) : exec G25 ⟨0, 95, spec_TxnOk_loops⟩ (loopBody Try.f78 5000012) (bodyK ⟨0, 95, spec_TxnOk_loops⟩ [1, 2] []) (setEs (deads 95) [1, 2] (spec_TxnOk_jv5000012 x)) (spec_TxnOk_js5000012 x) = spec_TxnOk_j5000012 x (fun z => some ⟨(spec_TxnOk_je5000012 z).1, (spec_TxnOk_je5000012 z).2.1, (spec_TxnOk_je5000012 z).2.2⟩) := by
  kernel_rfl

theorem spec_TxnOk_lo5000012 : ∀ sp, (spec_TxnOk_loops 5000012) = some sp → CutOk G25 ⟨0, 95, spec_TxnOk_loops⟩ sp (loopBody Try.f78 5000012) := by
  intro sp hsp vals st k r h
  cases hsp
  dsimp only at h
  rcases onPats_inv2 h with ⟨p, q, rfl, rfl, h⟩ | h
  · exact cut_runs spec_TxnOk_jp5000012 spec_TxnOk_jv5000012 spec_TxnOk_js5000012 spec_TxnOk_je5000012 spec_TxnOk_jx5000012 (p.2.1, q.1.1, q.1.2.1, q.1.2.2.1, q.1.2.2.2.1, q.1.2.2.2.2.1, q.1.2.2.2.2.2.1, q.1.2.2.2.2.2.2.1, q.1.2.2.2.2.2.2.2.1) _ k r (fun z => rfl) h
  cases h

def spec_TxnOk_jv5000010 : (Bool × Int × Int × Int × Int × (List dRange) × (List dWrite) × Bool × ByteArray) → List AV := (fun x => [.bp 0 0, .bool x.1])
def spec_TxnOk_js5000010 : (Bool × Int × Int × Int × Int × (List dRange) × (List dWrite) × Bool × ByteArray) → St := (fun x => [.box [.int .i64 x.2.1, .int .i64 x.2.2.1, .int .i64 x.2.2.2.1, .int .i64 x.2.2.2.2.1, .lst tRange x.2.2.2.2.2.1, .lst tWrite x.2.2.2.2.2.2.1, .bool x.2.2.2.2.2.2.2.1, .str x.2.2.2.2.2.2.2.2]])
def spec_TxnOk_je5000010 : (Bool × Int × Int × Int × Int × (List dRange) × (List dWrite) × Bool × ByteArray) → Out × List AV × St := (fun z => (.ret, [.bp 0 0, .bool z.1], [.box [.int .i64 z.2.1, .int .i64 z.2.2.1, .int .i64 z.2.2.2.1, .int .i64 z.2.2.2.2.1, .lst tRange z.2.2.2.2.2.1, .lst tWrite z.2.2.2.2.2.2.1, .bool z.2.2.2.2.2.2.2.1, .str z.2.2.2.2.2.2.2.2]]))

theorem spec_TxnOk_jx5000010 (x : (Bool × Int × Int × Int × Int × (List dRange) × (List dWrite) × Bool × ByteArray)) : exec G25 ⟨0, 95, spec_TxnOk_loops⟩ (loopBody Try.f78 5000010) (bodyK ⟨0, 95, spec_TxnOk_loops⟩ [1, 2] []) (setEs (deads 95) [1, 2] (spec_TxnOk_jv5000010 x)) (spec_TxnOk_js5000010 x) = spec_TxnOk_j5000010 x (fun z => some ⟨(spec_TxnOk_je5000010 z).1, (spec_TxnOk_je5000010 z).2.1, (spec_TxnOk_je5000010 z).2.2⟩) := by
  kernel_rfl

theorem spec_TxnOk_lo5000010 : ∀ sp, (spec_TxnOk_loops 5000010) = some sp → CutOk G25 ⟨0, 95, spec_TxnOk_loops⟩ sp (loopBody Try.f78 5000010) := by
  intro sp hsp vals st k r h
  cases hsp
  dsimp only at h
  rcases onPats_inv2 h with ⟨p, q, rfl, rfl, h⟩ | h
  · exact cut_runs spec_TxnOk_jp5000010 spec_TxnOk_jv5000010 spec_TxnOk_js5000010 spec_TxnOk_je5000010 spec_TxnOk_jx5000010 (p.2.1, q.1.1, q.1.2.1, q.1.2.2.1, q.1.2.2.2.1, q.1.2.2.2.2.1, q.1.2.2.2.2.2.1, q.1.2.2.2.2.2.2.1, q.1.2.2.2.2.2.2.2.1) _ k r (fun z => rfl) h
  cases h

def spec_TxnOk_v0 : (Bool × Int × Int × Int × Int × Int × (List dRange) × (List dWrite) × Bool × ByteArray) → List AV := (fun x => [.bp 0 0, .bool x.1, .int .i64 x.2.1])
def spec_TxnOk_s0 : (Bool × Int × Int × Int × Int × Int × (List dRange) × (List dWrite) × Bool × ByteArray) → St := (fun x => [.box [.int .i64 x.2.2.1, .int .i64 x.2.2.2.1, .int .i64 x.2.2.2.2.1, .int .i64 x.2.2.2.2.2.1, .lst tRange x.2.2.2.2.2.2.1, .lst tWrite x.2.2.2.2.2.2.2.1, .bool x.2.2.2.2.2.2.2.2.1, .str x.2.2.2.2.2.2.2.2.2]])
def spec_TxnOk_e0 : ((Bool × Int × Int × Int × Int × Int × (List dRange) × (List dWrite) × Bool × ByteArray) ⊕ (Bool × Int × Int × Int × Int × Int × (List dRange) × (List dWrite) × Bool × ByteArray)) → Out × List AV × St := (Sum.elim (fun z => (.ret, [.bp 0 0, .bool z.1, .int .i64 z.2.1], [.box [.int .i64 z.2.2.1, .int .i64 z.2.2.2.1, .int .i64 z.2.2.2.2.1, .int .i64 z.2.2.2.2.2.1, .lst tRange z.2.2.2.2.2.2.1, .lst tWrite z.2.2.2.2.2.2.2.1, .bool z.2.2.2.2.2.2.2.2.1, .str z.2.2.2.2.2.2.2.2.2]])) (fun z => ((.exit 0), [.bp 0 0, .bool z.1, .int .i64 z.2.1], [.box [.int .i64 z.2.2.1, .int .i64 z.2.2.2.1, .int .i64 z.2.2.2.2.1, .int .i64 z.2.2.2.2.2.1, .lst tRange z.2.2.2.2.2.2.1, .lst tWrite z.2.2.2.2.2.2.2.1, .bool z.2.2.2.2.2.2.2.2.1, .str z.2.2.2.2.2.2.2.2.2]])))

theorem spec_TxnOk_bx0 (x : (Bool × Int × Int × Int × Int × Int × (List dRange) × (List dWrite) × Bool × ByteArray)) : exec G25 ⟨0, 95, spec_TxnOk_loops⟩ (loopBody Try.f78 0) (bodyK ⟨0, 95, spec_TxnOk_loops⟩ [1, 2, 3] []) (setEs (deads 95) [1, 2, 3] (spec_TxnOk_v0 x)) (spec_TxnOk_s0 x) = spec_TxnOk_b0 x (Sum.elim (fun y => some ⟨.norm, spec_TxnOk_v0 y, spec_TxnOk_s0 y⟩) fun z => some ⟨(spec_TxnOk_e0 z).1, (spec_TxnOk_e0 z).2.1, (spec_TxnOk_e0 z).2.2⟩) := by
  kernel_rfl

theorem spec_TxnOk_lo0 : ∀ sp, (spec_TxnOk_loops 0) = some sp → LoopOk G25 ⟨0, 95, spec_TxnOk_loops⟩ sp (loopBody Try.f78 0) := by
  intro sp hsp vals st k r h
  cases hsp
  dsimp only at h
  rcases onPats_inv2 h with ⟨p, q, rfl, rfl, h⟩ | h
  · exact loop_runs2 spec_TxnOk_bp0 spec_TxnOk_v0 spec_TxnOk_s0 spec_TxnOk_e0 (fun z => by rcases z with z | z <;> (intro h; cases h)) spec_TxnOk_bx0 Fuel (p.2.1, p.2.2.1, q.1.1, q.1.2.1, q.1.2.2.1, q.1.2.2.2.1, q.1.2.2.2.2.1, q.1.2.2.2.2.2.1, q.1.2.2.2.2.2.2.1, q.1.2.2.2.2.2.2.2.1) _ k r (fun z => by rcases z with z | z <;> rfl) h
  cases h

def spec_TxnOk_jv5000003 : (Bool × Int × Int × Int × Int × (List dRange) × (List dWrite) × Bool × ByteArray) → List AV := (fun x => [.bp 0 0, .bool x.1])
def spec_TxnOk_js5000003 : (Bool × Int × Int × Int × Int × (List dRange) × (List dWrite) × Bool × ByteArray) → St := (fun x => [.box [.int .i64 x.2.1, .int .i64 x.2.2.1, .int .i64 x.2.2.2.1, .int .i64 x.2.2.2.2.1, .lst tRange x.2.2.2.2.2.1, .lst tWrite x.2.2.2.2.2.2.1, .bool x.2.2.2.2.2.2.2.1, .str x.2.2.2.2.2.2.2.2]])
def spec_TxnOk_je5000003 : (Bool × Int × Int × Int × Int × (List dRange) × (List dWrite) × Bool × ByteArray) → Out × List AV × St := (fun z => (.ret, [.bp 0 0, .bool z.1], [.box [.int .i64 z.2.1, .int .i64 z.2.2.1, .int .i64 z.2.2.2.1, .int .i64 z.2.2.2.2.1, .lst tRange z.2.2.2.2.2.1, .lst tWrite z.2.2.2.2.2.2.1, .bool z.2.2.2.2.2.2.2.1, .str z.2.2.2.2.2.2.2.2]]))

theorem spec_TxnOk_jx5000003 (x : (Bool × Int × Int × Int × Int × (List dRange) × (List dWrite) × Bool × ByteArray)) : exec G25 ⟨0, 95, spec_TxnOk_loops⟩ (loopBody Try.f78 5000003) (bodyK ⟨0, 95, spec_TxnOk_loops⟩ [1, 2] []) (setEs (deads 95) [1, 2] (spec_TxnOk_jv5000003 x)) (spec_TxnOk_js5000003 x) = spec_TxnOk_j5000003 x (fun z => some ⟨(spec_TxnOk_je5000003 z).1, (spec_TxnOk_je5000003 z).2.1, (spec_TxnOk_je5000003 z).2.2⟩) := by
  kernel_rfl

theorem spec_TxnOk_lo5000003 : ∀ sp, (spec_TxnOk_loops 5000003) = some sp → CutOk G25 ⟨0, 95, spec_TxnOk_loops⟩ sp (loopBody Try.f78 5000003) := by
  intro sp hsp vals st k r h
  cases hsp
  dsimp only at h
  rcases onPats_inv2 h with ⟨p, q, rfl, rfl, h⟩ | h
  · exact cut_runs spec_TxnOk_jp5000003 spec_TxnOk_jv5000003 spec_TxnOk_js5000003 spec_TxnOk_je5000003 spec_TxnOk_jx5000003 (p.2.1, q.1.1, q.1.2.1, q.1.2.2.1, q.1.2.2.2.1, q.1.2.2.2.2.1, q.1.2.2.2.2.2.1, q.1.2.2.2.2.2.2.1, q.1.2.2.2.2.2.2.2.1) _ k r (fun z => rfl) h
  cases h

theorem spec_TxnOk_x (a0 : Int) (a1 : Int) (a2 : Int) (a3 : Int) (a4 : (List dRange)) (a5 : (List dWrite)) (a6 : Bool) (a7 : ByteArray) : execFn G25 spec_TxnOk_loops Try.f78 [.agg [.int .i64 a0, .int .i64 a1, .int .i64 a2, .int .i64 a3, .lst tRange a4, .lst tWrite a5, .bool a6, .str a7]] [] = spec_TxnOk_d (a0, (a1, (a2, (a3, (a4, (a5, (a6, a7))))))) (fun (y : Bool) => some ⟨.ret, [.bool y], []⟩) := by kernel_rfl

theorem spec_TxnOk_y (a0 : Int) (a1 : Int) (a2 : Int) (a3 : Int) (a4 : (List dRange)) (a5 : (List dWrite)) (a6 : Bool) (a7 : ByteArray) : execFn G25 spec_TxnOk_loops Try.f78 [.agg [.int .i64 a0, .int .i64 a1, .int .i64 a2, .int .i64 a3, .lst tRange a4, .lst tWrite a5, .bool a6, .str a7]] [] = spec_TxnOk_k (a0, (a1, (a2, (a3, (a4, (a5, (a6, a7))))))) (fun (y : Bool) => some ⟨.ret, [.bool y], []⟩) := (spec_TxnOk_x a0 a1 a2 a3 a4 a5 a6 a7).trans (by rw [spec_TxnOk_e])

theorem spec_TxnOk_l : LoopsOk G25 ⟨0, 95, spec_TxnOk_loops⟩ (Try.f78.body.getD .skip) :=
  loopsOk_of (ids := [5000012, 5000010, 0, 5000003]) (by kernel_rfl) (by kernel_rfl) ⟨spec_TxnOk_lo5000012, ⟨spec_TxnOk_lo5000010, ⟨spec_TxnOk_lo0, ⟨spec_TxnOk_lo5000003, trivial⟩⟩⟩⟩

theorem spec_TxnOk_c : Contract Try.prog 78 spec_TxnOk_g := by
  refine told G25_ok follows Try.func78 (c := Try.f78.body.getD .skip) (by kernel_rfl) ?_
  intro args s k r hk
  unfold spec_TxnOk_g at hk
  rcases onPats_inv hk with ⟨p, q, rfl, rfl⟩ | hk
  · exact ⟨spec_TxnOk_loops, spec_TxnOk_q p.1.1 p.1.2.1 p.1.2.2.1 p.1.2.2.2.1 p.1.2.2.2.2.1 p.1.2.2.2.2.2.1 p.1.2.2.2.2.2.2.1 p.1.2.2.2.2.2.2.2.1, spec_TxnOk_y p.1.1 p.1.2.1 p.1.2.2.1 p.1.2.2.2.1 p.1.2.2.2.2.1 p.1.2.2.2.2.2.1 p.1.2.2.2.2.2.2.1 p.1.2.2.2.2.2.2.2.1, spec_TxnOk_l⟩
  cases hk

def G26 : Glob := G25.add 78 spec_TxnOk_g

theorem G26_ok : GlobOk Try.prog G26 := G25_ok.add ⟨Try.f78, Try.func78, by kernel_rfl, by kernel_rfl⟩ spec_TxnOk_c

/-! ### loop.example/g00327/spec.l10NoTxn -/

def spec_l10NoTxn_loops : Nat → Option LoopSpec
  | _ => none

theorem spec_l10NoTxn_x (a0 : Int) (a1 : Int) (a2 : Int) (a3 : Int) (a4 : (List dRange)) (a5 : (List dWrite)) (a6 : Bool) (a7 : ByteArray) : execFn G26 spec_l10NoTxn_loops Try.f95 [.agg [.int .i64 a0, .int .i64 a1, .int .i64 a2, .int .i64 a3, .lst tRange a4, .lst tWrite a5, .bool a6, .str a7]] [] = spec_l10NoTxn_d (a0, (a1, (a2, (a3, (a4, (a5, (a6, a7))))))) (fun (y : Bool) => some ⟨.ret, [.bool y], []⟩) := by kernel_rfl

theorem spec_l10NoTxn_y (a0 : Int) (a1 : Int) (a2 : Int) (a3 : Int) (a4 : (List dRange)) (a5 : (List dWrite)) (a6 : Bool) (a7 : ByteArray) : execFn G26 spec_l10NoTxn_loops Try.f95 [.agg [.int .i64 a0, .int .i64 a1, .int .i64 a2, .int .i64 a3, .lst tRange a4, .lst tWrite a5, .bool a6, .str a7]] [] = spec_l10NoTxn_k (a0, (a1, (a2, (a3, (a4, (a5, (a6, a7))))))) (fun (y : Bool) => some ⟨.ret, [.bool y], []⟩) := (spec_l10NoTxn_x a0 a1 a2 a3 a4 a5 a6 a7).trans (by rw [spec_l10NoTxn_e])

theorem spec_l10NoTxn_l : LoopsOk G26 ⟨0, 43, spec_l10NoTxn_loops⟩ (Try.f95.body.getD .skip) :=
  loopsOk_of (ids := []) (by kernel_rfl) (by kernel_rfl) trivial

theorem spec_l10NoTxn_c : Contract Try.prog 95 spec_l10NoTxn_g := by
  refine told G26_ok follows Try.func95 (c := Try.f95.body.getD .skip) (by kernel_rfl) ?_
  intro args s k r hk
  unfold spec_l10NoTxn_g at hk
  rcases onPats_inv hk with ⟨p, q, rfl, rfl⟩ | hk
  · exact ⟨spec_l10NoTxn_loops, spec_l10NoTxn_q p.1.1 p.1.2.1 p.1.2.2.1 p.1.2.2.2.1 p.1.2.2.2.2.1 p.1.2.2.2.2.2.1 p.1.2.2.2.2.2.2.1 p.1.2.2.2.2.2.2.2.1, spec_l10NoTxn_y p.1.1 p.1.2.1 p.1.2.2.1 p.1.2.2.2.1 p.1.2.2.2.2.1 p.1.2.2.2.2.2.1 p.1.2.2.2.2.2.2.1 p.1.2.2.2.2.2.2.2.1, spec_l10NoTxn_l⟩
  cases hk

def G27 : Glob := G26.add 95 spec_l10NoTxn_g

theorem G27_ok : GlobOk Try.prog G27 := G26_ok.add ⟨Try.f95, Try.func95, by kernel_rfl, by kernel_rfl⟩ spec_l10NoTxn_c

/-! ### loop.example/g00327/spec.VersionsOk -/

def spec_VersionsOk_loops : Nat → Option LoopSpec
  | 5000007 => some ⟨[0, 2, 3, 4], [], fun vals st k => onPats [.lst tVersion, .bool, .int .i64, .bp 0 0] [.box [.str, .str, .bool, .int .i64]] vals st (fun p q => spec_VersionsOk_j5000007 (p.1, p.2.1, p.2.2.1, q.1.1, q.1.2.1, q.1.2.2.1, q.1.2.2.2.1) (Sum.elim (fun z => k .ret [.lst tVersion z.1, .bool z.2.1, .int .i64 z.2.2.1, .bp 0 0] [.box [.str z.2.2.2.1, .str z.2.2.2.2.1, .bool z.2.2.2.2.2.1, .int .i64 z.2.2.2.2.2.2]]) (fun z => k .norm [.lst tVersion z.1, .bool z.2.1, .int .i64 z.2.2.1, .bp 0 0] [.box [.str z.2.2.2.1, .str z.2.2.2.2.1, .bool z.2.2.2.2.2.1, .int .i64 z.2.2.2.2.2.2]])))
      (none)⟩
  | 0 => some ⟨[0, 2, 3], [], fun vals st k => onPats [.lst tVersion, .bool, .int .i64] [] vals st (fun p q => loopK spec_VersionsOk_b0 Fuel (p.1, p.2.1, p.2.2.1) (Sum.elim (fun z => k .ret [.lst tVersion z.1, .bool z.2.1, .int .i64 z.2.2] []) (fun z => k (.exit 0) [.lst tVersion z.1, .bool z.2.1, .int .i64 z.2.2] [])))
      (none)⟩
  | 2000007 => some ⟨[0, 2, 4, 6, 8, 10, 12, 14, 16, 18, 20, 22, 24, 26, 28, 30, 32, 34, 36, 38, 40, 42, 44, 46, 48, 50, 52, 54, 56, 58, 60, 62, 64, 66, 68], [], fun _ _ _ => none⟩
  | _ => none

def spec_VersionsOk_jv5000007 : ((List dVersion) × Bool × Int × ByteArray × ByteArray × Bool × Int) → List AV := (fun x => [.lst tVersion x.1, .bool x.2.1, .int .i64 x.2.2.1, .bp 0 0])
def spec_VersionsOk_js5000007 : ((List dVersion) × Bool × Int × ByteArray × ByteArray × Bool × Int) → St := (fun x => [.box [.str x.2.2.2.1, .str x.2.2.2.2.1, .bool x.2.2.2.2.2.1, .int .i64 x.2.2.2.2.2.2]])
def spec_VersionsOk_je5000007 : (((List dVersion) × Bool × Int × ByteArray × ByteArray × Bool × Int) ⊕ ((List dVersion) × Bool × Int × ByteArray × ByteArray × Bool × Int)) → Out × List AV × St := (Sum.elim (fun z => (.ret, [.lst tVersion z.1, .bool z.2.1, .int .i64 z.2.2.1, .bp 0 0], [.box [.str z.2.2.2.1, .str z.2.2.2.2.1, .bool z.2.2.2.2.2.1, .int .i64 z.2.2.2.2.2.2]])) (fun z => (.norm, [.lst tVersion z.1, .bool z.2.1, .int .i64 z.2.2.1, .bp 0 0], [.box [.str z.2.2.2.1, .str z.2.2.2.2.1, .bool z.2.2.2.2.2.1, .int .i64 z.2.2.2.2.2.2]])))

theorem spec_VersionsOk_jx5000007 (x : ((List dVersion) × Bool × Int × ByteArray × ByteArray × Bool × Int)) : exec G27 ⟨0, 78, spec_VersionsOk_loops⟩ (loopBody Try.f164 5000007) (bodyK ⟨0, 78, spec_VersionsOk_loops⟩ [0, 2, 3, 4] []) (setEs (deads 78) [0, 2, 3, 4] (spec_VersionsOk_jv5000007 x)) (spec_VersionsOk_js5000007 x) = spec_VersionsOk_j5000007 x (fun z => some ⟨(spec_VersionsOk_je5000007 z).1, (spec_VersionsOk_je5000007 z).2.1, (spec_VersionsOk_je5000007 z).2.2⟩) := by
  kernel_rfl

theorem spec_VersionsOk_lo5000007 : ∀ sp, (spec_VersionsOk_loops 5000007) = some sp → CutOk G27 ⟨0, 78, spec_VersionsOk_loops⟩ sp (loopBody Try.f164 5000007) := by
  intro sp hsp vals st k r h
  cases hsp
  dsimp only at h
  rcases onPats_inv2 h with ⟨p, q, rfl, rfl, h⟩ | h
  · exact cut_runs spec_VersionsOk_jp5000007 spec_VersionsOk_jv5000007 spec_VersionsOk_js5000007 spec_VersionsOk_je5000007 spec_VersionsOk_jx5000007 (p.1, p.2.1, p.2.2.1, q.1.1, q.1.2.1, q.1.2.2.1, q.1.2.2.2.1) _ k r (fun z => by rcases z with z | z <;> rfl) h
  cases h

def spec_VersionsOk_v0 : ((List dVersion) × Bool × Int) → List AV := (fun x => [.lst tVersion x.1, .bool x.2.1, .int .i64 x.2.2])
def spec_VersionsOk_s0 : ((List dVersion) × Bool × Int) → St := (fun x => [])
def spec_VersionsOk_e0 : (((List dVersion) × Bool × Int) ⊕ ((List dVersion) × Bool × Int)) → Out × List AV × St := (Sum.elim (fun z => (.ret, [.lst tVersion z.1, .bool z.2.1, .int .i64 z.2.2], [])) (fun z => ((.exit 0), [.lst tVersion z.1, .bool z.2.1, .int .i64 z.2.2], [])))

theorem spec_VersionsOk_bx0 (x : ((List dVersion) × Bool × Int)) : exec G27 ⟨0, 78, spec_VersionsOk_loops⟩ (loopBody Try.f164 0) (bodyK ⟨0, 78, spec_VersionsOk_loops⟩ [0, 2, 3] []) (setEs (deads 78) [0, 2, 3] (spec_VersionsOk_v0 x)) (spec_VersionsOk_s0 x) = spec_VersionsOk_b0 x (Sum.elim (fun y => some ⟨.norm, spec_VersionsOk_v0 y, spec_VersionsOk_s0 y⟩) fun z => some ⟨(spec_VersionsOk_e0 z).1, (spec_VersionsOk_e0 z).2.1, (spec_VersionsOk_e0 z).2.2⟩) := by
  kernel_rfl

theorem spec_VersionsOk_lo0 : ∀ sp, (spec_VersionsOk_loops 0) = some sp → LoopOk G27 ⟨0, 78, spec_VersionsOk_loops⟩ sp (loopBody Try.f164 0) := by
  intro sp hsp vals st k r h
  cases hsp
  dsimp only at h
  rcases onPats_inv2 h with ⟨p, q, rfl, rfl, h⟩ | h
  · exact loop_runs2 spec_VersionsOk_bp0 spec_VersionsOk_v0 spec_VersionsOk_s0 spec_VersionsOk_e0 (fun z => by rcases z with z | z <;> (intro h; cases h)) spec_VersionsOk_bx0 Fuel (p.1, p.2.1, p.2.2.1) _ k r (fun z => by rcases z with z | z <;> rfl) h
  cases h

theorem spec_VersionsOk_x (a0 : (List dVersion)) : execFn G27 spec_VersionsOk_loops Try.f164 [.lst tVersion a0] [] = spec_VersionsOk_d a0 (fun (y : Bool) => some ⟨.ret, [.bool y], []⟩) := by kernel_rfl

theorem spec_VersionsOk_y (a0 : (List dVersion)) : execFn G27 spec_VersionsOk_loops Try.f164 [.lst tVersion a0] [] = spec_VersionsOk_k a0 (fun (y : Bool) => some ⟨.ret, [.bool y], []⟩) := (spec_VersionsOk_x a0).trans (by rw [spec_VersionsOk_e])

theorem spec_VersionsOk_l : LoopsOk G27 ⟨0, 78, spec_VersionsOk_loops⟩ (Try.f164.body.getD .skip) :=
  loopsOk_of (ids := [5000007, 0]) (by kernel_rfl) (by kernel_rfl) ⟨spec_VersionsOk_lo5000007, ⟨spec_VersionsOk_lo0, trivial⟩⟩

theorem spec_VersionsOk_c : Contract Try.prog 164 spec_VersionsOk_g := by
  refine told G27_ok follows Try.func164 (c := Try.f164.body.getD .skip) (by kernel_rfl) ?_
  intro args s k r hk
  unfold spec_VersionsOk_g at hk
  rcases onPats_inv hk with ⟨p, q, rfl, rfl⟩ | hk
  · exact ⟨spec_VersionsOk_loops, spec_VersionsOk_q p.1, spec_VersionsOk_y p.1, spec_VersionsOk_l⟩
  cases hk

def G28 : Glob := G27.add 164 spec_VersionsOk_g

theorem G28_ok : GlobOk Try.prog G28 := G27_ok.add ⟨Try.f164, Try.func164, by kernel_rfl, by kernel_rfl⟩ spec_VersionsOk_c

/-! ### loop.example/g00327/spec.BaseOk -/

def spec_BaseOk_loops : Nat → Option LoopSpec
  | 0 => some ⟨[1, 2, 3], [], fun vals st k => onPats [.bp 0 0, .bool, .int .i64] [.box [.lst tVersion, .lst tTxn, .lst tTxn, .int .i64, .int .i64]] vals st (fun p q => loopK spec_BaseOk_b0 Fuel (p.2.1, p.2.2.1, q.1.1, q.1.2.1, q.1.2.2.1, q.1.2.2.2.1, q.1.2.2.2.2.1) (Sum.elim (fun z => k .ret [.bp 0 0, .bool z.1, .int .i64 z.2.1] [.box [.lst tVersion z.2.2.1, .lst tTxn z.2.2.2.1, .lst tTxn z.2.2.2.2.1, .int .i64 z.2.2.2.2.2.1, .int .i64 z.2.2.2.2.2.2]]) (fun z => k (.exit 0) [.bp 0 0, .bool z.1, .int .i64 z.2.1] [.box [.lst tVersion z.2.2.1, .lst tTxn z.2.2.2.1, .lst tTxn z.2.2.2.2.1, .int .i64 z.2.2.2.2.2.1, .int .i64 z.2.2.2.2.2.2]])))
      (none)⟩
  | 2 => some ⟨[1, 2, 4, 5], [], fun vals st k => onPats [.bp 0 0, .bool, .own 1, .int .i64] [.box [.lst tVersion, .lst tTxn, .lst tTxn, .int .i64, .int .i64], .arr (.int .i64)] vals st (fun p q => loopK spec_BaseOk_b2 Fuel (p.2.1, p.2.2.2.1, q.1.1, q.1.2.1, q.1.2.2.1, q.1.2.2.2.1, q.1.2.2.2.2.1, q.2.1) (Sum.elim (fun z => k .ret [.bp 0 0, .bool z.1, .own 1, .int .i64 z.2.1] [.box [.lst tVersion z.2.2.1, .lst tTxn z.2.2.2.1, .lst tTxn z.2.2.2.2.1, .int .i64 z.2.2.2.2.2.1, .int .i64 z.2.2.2.2.2.2.1], .arr (.int .i64) z.2.2.2.2.2.2.2]) (fun z => k (.exit 2) [.bp 0 0, .bool z.1, .own 1, .int .i64 z.2.1] [.box [.lst tVersion z.2.2.1, .lst tTxn z.2.2.2.1, .lst tTxn z.2.2.2.2.1, .int .i64 z.2.2.2.2.2.1, .int .i64 z.2.2.2.2.2.2.1], .arr (.int .i64) z.2.2.2.2.2.2.2])))
      (none)⟩
  | 4 => some ⟨[1, 2, 4, 7], [], fun vals st k => onPats [.bp 0 0, .bool, .own 1, .int .i64] [.box [.lst tVersion, .lst tTxn, .lst tTxn, .int .i64, .int .i64], .arr (.int .i64)] vals st (fun p q => loopK spec_BaseOk_b4 Fuel (p.2.1, p.2.2.2.1, q.1.1, q.1.2.1, q.1.2.2.1, q.1.2.2.2.1, q.1.2.2.2.2.1, q.2.1) (Sum.elim (fun z => k .ret [.bp 0 0, .bool z.1, .own 1, .int .i64 z.2.1] [.box [.lst tVersion z.2.2.1, .lst tTxn z.2.2.2.1, .lst tTxn z.2.2.2.2.1, .int .i64 z.2.2.2.2.2.1, .int .i64 z.2.2.2.2.2.2.1], .arr (.int .i64) z.2.2.2.2.2.2.2]) (fun z => k (.exit 4) [.bp 0 0, .bool z.1, .own 1, .int .i64 z.2.1] [.box [.lst tVersion z.2.2.1, .lst tTxn z.2.2.2.1, .lst tTxn z.2.2.2.2.1, .int .i64 z.2.2.2.2.2.1, .int .i64 z.2.2.2.2.2.2.1], .arr (.int .i64) z.2.2.2.2.2.2.2])))
      (none)⟩
  | 8 => some ⟨[1, 2, 4, 9, 10], [], fun vals st k => onPats [.bp 0 0, .bool, .own 1, .int .i64, .int .i64] [.box [.lst tVersion, .lst tTxn, .lst tTxn, .int .i64, .int .i64], .arr (.int .i64)] vals st (fun p q => loopK spec_BaseOk_b8 Fuel (p.2.1, p.2.2.2.1, p.2.2.2.2.1, q.1.1, q.1.2.1, q.1.2.2.1, q.1.2.2.2.1, q.1.2.2.2.2.1, q.2.1) (Sum.elim (fun z => k .ret [.bp 0 0, .bool z.1, .own 1, .int .i64 z.2.1, .int .i64 z.2.2.1] [.box [.lst tVersion z.2.2.2.1, .lst tTxn z.2.2.2.2.1, .lst tTxn z.2.2.2.2.2.1, .int .i64 z.2.2.2.2.2.2.1, .int .i64 z.2.2.2.2.2.2.2.1], .arr (.int .i64) z.2.2.2.2.2.2.2.2]) (fun z => k (.exit 8) [.bp 0 0, .bool z.1, .own 1, .int .i64 z.2.1, .int .i64 z.2.2.1] [.box [.lst tVersion z.2.2.2.1, .lst tTxn z.2.2.2.2.1, .lst tTxn z.2.2.2.2.2.1, .int .i64 z.2.2.2.2.2.2.1, .int .i64 z.2.2.2.2.2.2.2.1], .arr (.int .i64) z.2.2.2.2.2.2.2.2])))
      (none)⟩
  | 6 => some ⟨[1, 2, 4, 9], [], fun vals st k => onPats [.bp 0 0, .bool, .own 1, .int .i64] [.box [.lst tVersion, .lst tTxn, .lst tTxn, .int .i64, .int .i64], .arr (.int .i64)] vals st (fun p q => loopK spec_BaseOk_b6 Fuel (p.2.1, p.2.2.2.1, q.1.1, q.1.2.1, q.1.2.2.1, q.1.2.2.2.1, q.1.2.2.2.2.1, q.2.1) (Sum.elim (fun z => k (.exit 6) [.bp 0 0, .bool z.1, .own 1, .int .i64 z.2.1] [.box [.lst tVersion z.2.2.1, .lst tTxn z.2.2.2.1, .lst tTxn z.2.2.2.2.1, .int .i64 z.2.2.2.2.2.1, .int .i64 z.2.2.2.2.2.2.1], .arr (.int .i64) z.2.2.2.2.2.2.2]) (fun z => k .ret [.bp 0 0, .bool z.1, .own 1, .int .i64 z.2.1] [.box [.lst tVersion z.2.2.1, .lst tTxn z.2.2.2.1, .lst tTxn z.2.2.2.2.1, .int .i64 z.2.2.2.2.2.1, .int .i64 z.2.2.2.2.2.2.1], .arr (.int .i64) z.2.2.2.2.2.2.2])))
      (none)⟩
  | 5000003 => some ⟨[1, 2], [], fun vals st k => onPats [.bp 0 0, .bool] [.box [.lst tVersion, .lst tTxn, .lst tTxn, .int .i64, .int .i64]] vals st (fun p q => spec_BaseOk_j5000003 (p.2.1, q.1.1, q.1.2.1, q.1.2.2.1, q.1.2.2.2.1, q.1.2.2.2.2.1) (fun z => k .ret [.bp 0 0, .bool z.1] [.box [.lst tVersion z.2.1, .lst tTxn z.2.2.1, .lst tTxn z.2.2.2.1, .int .i64 z.2.2.2.2.1, .int .i64 z.2.2.2.2.2]]))
      (none)⟩
  | 2000006 => some ⟨[0, 2, 4, 6, 8, 10, 12, 14, 16], [], fun _ _ _ => none⟩
  | 2000013 => some ⟨[0, 3, 4, 6, 8, 10, 12, 14, 16, 18, 20, 22, 24, 26, 28, 30, 32, 34, 36, 38, 40, 42, 44, 46, 48, 50, 52, 54, 56, 58, 60], [], fun _ _ _ => none⟩
  | 2000020 => some ⟨[0, 3, 4, 6, 8, 10, 12, 14, 16, 18, 20, 22, 24, 26, 28, 30, 32, 34, 36, 38, 40, 42, 44, 46, 48, 50, 52, 54, 56, 58, 60], [], fun _ _ _ => none⟩
  | 2000029 => some ⟨[0, 2, 4, 6, 8, 10, 12, 14, 16], [], fun _ _ _ => none⟩
  | _ => none

def spec_BaseOk_v0 : (Bool × Int × (List dVersion) × (List dTxn) × (List dTxn) × Int × Int) → List AV := (fun x => [.bp 0 0, .bool x.1, .int .i64 x.2.1])
def spec_BaseOk_s0 : (Bool × Int × (List dVersion) × (List dTxn) × (List dTxn) × Int × Int) → St := (fun x => [.box [.lst tVersion x.2.2.1, .lst tTxn x.2.2.2.1, .lst tTxn x.2.2.2.2.1, .int .i64 x.2.2.2.2.2.1, .int .i64 x.2.2.2.2.2.2]])
def spec_BaseOk_e0 : ((Bool × Int × (List dVersion) × (List dTxn) × (List dTxn) × Int × Int) ⊕ (Bool × Int × (List dVersion) × (List dTxn) × (List dTxn) × Int × Int)) → Out × List AV × St := (Sum.elim (fun z => (.ret, [.bp 0 0, .bool z.1, .int .i64 z.2.1], [.box [.lst tVersion z.2.2.1, .lst tTxn z.2.2.2.1, .lst tTxn z.2.2.2.2.1, .int .i64 z.2.2.2.2.2.1, .int .i64 z.2.2.2.2.2.2]])) (fun z => ((.exit 0), [.bp 0 0, .bool z.1, .int .i64 z.2.1], [.box [.lst tVersion z.2.2.1, .lst tTxn z.2.2.2.1, .lst tTxn z.2.2.2.2.1, .int .i64 z.2.2.2.2.2.1, .int .i64 z.2.2.2.2.2.2]])))

theorem spec_BaseOk_bx0 (x : (Bool × Int × (List dVersion) × (List dTxn) × (List dTxn) × Int × Int)) : exec G28 ⟨0, 179, spec_BaseOk_loops⟩ (loopBody Try.f77 0) (bodyK ⟨0, 179, spec_BaseOk_loops⟩ [1, 2, 3] []) (setEs (deads 179) [1, 2, 3] (spec_BaseOk_v0 x)) (spec_BaseOk_s0 x) = spec_BaseOk_b0 x (Sum.elim (fun y => some ⟨.norm, spec_BaseOk_v0 y, spec_BaseOk_s0 y⟩) fun z => some ⟨(spec_BaseOk_e0 z).1, (spec_BaseOk_e0 z).2.1, (spec_BaseOk_e0 z).2.2⟩) := by
  kernel_rfl

theorem spec_BaseOk_lo0 : ∀ sp, (spec_BaseOk_loops 0) = some sp → LoopOk G28 ⟨0, 179, spec_BaseOk_loops⟩ sp (loopBody Try.f77 0) := by
  intro sp hsp vals st k r h
  cases hsp
  dsimp only at h
  rcases onPats_inv2 h with ⟨p, q, rfl, rfl, h⟩ | h
  · exact loop_runs2 spec_BaseOk_bp0 spec_BaseOk_v0 spec_BaseOk_s0 spec_BaseOk_e0 (fun z => by rcases z with z | z <;> (intro h; cases h)) spec_BaseOk_bx0 Fuel (p.2.1, p.2.2.1, q.1.1, q.1.2.1, q.1.2.2.1, q.1.2.2.2.1, q.1.2.2.2.2.1) _ k r (fun z => by rcases z with z | z <;> rfl) h
  cases h

def spec_BaseOk_v2 : (Bool × Int × (List dVersion) × (List dTxn) × (List dTxn) × Int × Int × (List Int)) → List AV := (fun x => [.bp 0 0, .bool x.1, .own 1, .int .i64 x.2.1])
def spec_BaseOk_s2 : (Bool × Int × (List dVersion) × (List dTxn) × (List dTxn) × Int × Int × (List Int)) → St := (fun x => [.box [.lst tVersion x.2.2.1, .lst tTxn x.2.2.2.1, .lst tTxn x.2.2.2.2.1, .int .i64 x.2.2.2.2.2.1, .int .i64 x.2.2.2.2.2.2.1], .arr (.int .i64) x.2.2.2.2.2.2.2])
def spec_BaseOk_e2 : ((Bool × Int × (List dVersion) × (List dTxn) × (List dTxn) × Int × Int × (List Int)) ⊕ (Bool × Int × (List dVersion) × (List dTxn) × (List dTxn) × Int × Int × (List Int))) → Out × List AV × St := (Sum.elim (fun z => (.ret, [.bp 0 0, .bool z.1, .own 1, .int .i64 z.2.1], [.box [.lst tVersion z.2.2.1, .lst tTxn z.2.2.2.1, .lst tTxn z.2.2.2.2.1, .int .i64 z.2.2.2.2.2.1, .int .i64 z.2.2.2.2.2.2.1], .arr (.int .i64) z.2.2.2.2.2.2.2])) (fun z => ((.exit 2), [.bp 0 0, .bool z.1, .own 1, .int .i64 z.2.1], [.box [.lst tVersion z.2.2.1, .lst tTxn z.2.2.2.1, .lst tTxn z.2.2.2.2.1, .int .i64 z.2.2.2.2.2.1, .int .i64 z.2.2.2.2.2.2.1], .arr (.int .i64) z.2.2.2.2.2.2.2])))

theorem spec_BaseOk_bx2 (x : (Bool × Int × (List dVersion) × (List dTxn) × (List dTxn) × Int × Int × (List Int))) : exec G28 ⟨0, 179, spec_BaseOk_loops⟩ (loopBody Try.f77 2) (bodyK ⟨0, 179, spec_BaseOk_loops⟩ [1, 2, 4, 5] []) (setEs (deads 179) [1, 2, 4, 5] (spec_BaseOk_v2 x)) (spec_BaseOk_s2 x) = spec_BaseOk_b2 x (Sum.elim (fun y => some ⟨.norm, spec_BaseOk_v2 y, spec_BaseOk_s2 y⟩) fun z => some ⟨(spec_BaseOk_e2 z).1, (spec_BaseOk_e2 z).2.1, (spec_BaseOk_e2 z).2.2⟩) := by
  kernel_rfl

theorem spec_BaseOk_lo2 : ∀ sp, (spec_BaseOk_loops 2) = some sp → LoopOk G28 ⟨0, 179, spec_BaseOk_loops⟩ sp (loopBody Try.f77 2) := by
  intro sp hsp vals st k r h
  cases hsp
  dsimp only at h
  rcases onPats_inv2 h with ⟨p, q, rfl, rfl, h⟩ | h
  · exact loop_runs2 spec_BaseOk_bp2 spec_BaseOk_v2 spec_BaseOk_s2 spec_BaseOk_e2 (fun z => by rcases z with z | z <;> (intro h; cases h)) spec_BaseOk_bx2 Fuel (p.2.1, p.2.2.2.1, q.1.1, q.1.2.1, q.1.2.2.1, q.1.2.2.2.1, q.1.2.2.2.2.1, q.2.1) _ k r (fun z => by rcases z with z | z <;> rfl) h
  cases h

def spec_BaseOk_v4 : (Bool × Int × (List dVersion) × (List dTxn) × (List dTxn) × Int × Int × (List Int)) → List AV := (fun x => [.bp 0 0, .bool x.1, .own 1, .int .i64 x.2.1])
def spec_BaseOk_s4 : (Bool × Int × (List dVersion) × (List dTxn) × (List dTxn) × Int × Int × (List Int)) → St := (fun x => [.box [.lst tVersion x.2.2.1, .lst tTxn x.2.2.2.1, .lst tTxn x.2.2.2.2.1, .int .i64 x.2.2.2.2.2.1, .int .i64 x.2.2.2.2.2.2.1], .arr (.int .i64) x.2.2.2.2.2.2.2])
def spec_BaseOk_e4 : ((Bool × Int × (List dVersion) × (List dTxn) × (List dTxn) × Int × Int × (List Int)) ⊕ (Bool × Int × (List dVersion) × (List dTxn) × (List dTxn) × Int × Int × (List Int))) → Out × List AV × St := (Sum.elim (fun z => (.ret, [.bp 0 0, .bool z.1, .own 1, .int .i64 z.2.1], [.box [.lst tVersion z.2.2.1, .lst tTxn z.2.2.2.1, .lst tTxn z.2.2.2.2.1, .int .i64 z.2.2.2.2.2.1, .int .i64 z.2.2.2.2.2.2.1], .arr (.int .i64) z.2.2.2.2.2.2.2])) (fun z => ((.exit 4), [.bp 0 0, .bool z.1, .own 1, .int .i64 z.2.1], [.box [.lst tVersion z.2.2.1, .lst tTxn z.2.2.2.1, .lst tTxn z.2.2.2.2.1, .int .i64 z.2.2.2.2.2.1, .int .i64 z.2.2.2.2.2.2.1], .arr (.int .i64) z.2.2.2.2.2.2.2])))

theorem spec_BaseOk_bx4 (x : (Bool × Int × (List dVersion) × (List dTxn) × (List dTxn) × Int × Int × (List Int))) : exec G28 ⟨0, 179, spec_BaseOk_loops⟩ (loopBody Try.f77 4) (bodyK ⟨0, 179, spec_BaseOk_loops⟩ [1, 2, 4, 7] []) (setEs (deads 179) [1, 2, 4, 7] (spec_BaseOk_v4 x)) (spec_BaseOk_s4 x) = spec_BaseOk_b4 x (Sum.elim (fun y => some ⟨.norm, spec_BaseOk_v4 y, spec_BaseOk_s4 y⟩) fun z => some ⟨(spec_BaseOk_e4 z).1, (spec_BaseOk_e4 z).2.1, (spec_BaseOk_e4 z).2.2⟩) := by
  kernel_rfl

theorem spec_BaseOk_lo4 : ∀ sp, (spec_BaseOk_loops 4) = some sp → LoopOk G28 ⟨0, 179, spec_BaseOk_loops⟩ sp (loopBody Try.f77 4) := by
  intro sp hsp vals st k r h
  cases hsp
  dsimp only at h
  rcases onPats_inv2 h with ⟨p, q, rfl, rfl, h⟩ | h
  · exact loop_runs2 spec_BaseOk_bp4 spec_BaseOk_v4 spec_BaseOk_s4 spec_BaseOk_e4 (fun z => by rcases z with z | z <;> (intro h; cases h)) spec_BaseOk_bx4 Fuel (p.2.1, p.2.2.2.1, q.1.1, q.1.2.1, q.1.2.2.1, q.1.2.2.2.1, q.1.2.2.2.2.1, q.2.1) _ k r (fun z => by rcases z with z | z <;> rfl) h
  cases h

def spec_BaseOk_v8 : (Bool × Int × Int × (List dVersion) × (List dTxn) × (List dTxn) × Int × Int × (List Int)) → List AV := (fun x => [.bp 0 0, .bool x.1, .own 1, .int .i64 x.2.1, .int .i64 x.2.2.1])
def spec_BaseOk_s8 : (Bool × Int × Int × (List dVersion) × (List dTxn) × (List dTxn) × Int × Int × (List Int)) → St := (fun x => [.box [.lst tVersion x.2.2.2.1, .lst tTxn x.2.2.2.2.1, .lst tTxn x.2.2.2.2.2.1, .int .i64 x.2.2.2.2.2.2.1, .int .i64 x.2.2.2.2.2.2.2.1], .arr (.int .i64) x.2.2.2.2.2.2.2.2])
def spec_BaseOk_e8 : ((Bool × Int × Int × (List dVersion) × (List dTxn) × (List dTxn) × Int × Int × (List Int)) ⊕ (Bool × Int × Int × (List dVersion) × (List dTxn) × (List dTxn) × Int × Int × (List Int))) → Out × List AV × St := (Sum.elim (fun z => (.ret, [.bp 0 0, .bool z.1, .own 1, .int .i64 z.2.1, .int .i64 z.2.2.1], [.box [.lst tVersion z.2.2.2.1, .lst tTxn z.2.2.2.2.1, .lst tTxn z.2.2.2.2.2.1, .int .i64 z.2.2.2.2.2.2.1, .int .i64 z.2.2.2.2.2.2.2.1], .arr (.int .i64) z.2.2.2.2.2.2.2.2])) (fun z => ((.exit 8), [.bp 0 0, .bool z.1, .own 1, .int .i64 z.2.1, .int .i64 z.2.2.1], [.box [.lst tVersion z.2.2.2.1, .lst tTxn z.2.2.2.2.1, .lst tTxn z.2.2.2.2.2.1, .int .i64 z.2.2.2.2.2.2.1, .int .i64 z.2.2.2.2.2.2.2.1], .arr (.int .i64) z.2.2.2.2.2.2.2.2])))

theorem spec_BaseOk_bx8 (x : (Bool × Int × Int × (List dVersion) × (List dTxn) × (List dTxn) × Int × Int × (List Int))) : exec G28 ⟨0, 179, spec_BaseOk_loops⟩ (loopBody Try.f77 8) (bodyK ⟨0, 179, spec_BaseOk_loops⟩ [1, 2, 4, 9, 10] []) (setEs (deads 179) [1, 2, 4, 9, 10] (spec_BaseOk_v8 x)) (spec_BaseOk_s8 x) = spec_BaseOk_b8 x (Sum.elim (fun y => some ⟨.norm, spec_BaseOk_v8 y, spec_BaseOk_s8 y⟩) fun z => some ⟨(spec_BaseOk_e8 z).1, (spec_BaseOk_e8 z).2.1, (spec_BaseOk_e8 z).2.2⟩) := by
  kernel_rfl

theorem spec_BaseOk_lo8 : ∀ sp, (spec_BaseOk_loops 8) = some sp → LoopOk G28 ⟨0, 179, spec_BaseOk_loops⟩ sp (loopBody Try.f77 8) := by
  intro sp hsp vals st k r h
  cases hsp
  dsimp only at h
  rcases onPats_inv2 h with ⟨p, q, rfl, rfl, h⟩ | h
  · exact loop_runs2 spec_BaseOk_bp8 spec_BaseOk_v8 spec_BaseOk_s8 spec_BaseOk_e8 (fun z => by rcases z with z | z <;> (intro h; cases h)) spec_BaseOk_bx8 Fuel (p.2.1, p.2.2.2.1, p.2.2.2.2.1, q.1.1, q.1.2.1, q.1.2.2.1, q.1.2.2.2.1, q.1.2.2.2.2.1, q.2.1) _ k r (fun z => by rcases z with z | z <;> rfl) h
  cases h

def spec_BaseOk_v6 : (Bool × Int × (List dVersion) × (List dTxn) × (List dTxn) × Int × Int × (List Int)) → List AV := (fun x => [.bp 0 0, .bool x.1, .own 1, .int .i64 x.2.1])
def spec_BaseOk_s6 : (Bool × Int × (List dVersion) × (List dTxn) × (List dTxn) × Int × Int × (List Int)) → St := (fun x => [.box [.lst tVersion x.2.2.1, .lst tTxn x.2.2.2.1, .lst tTxn x.2.2.2.2.1, .int .i64 x.2.2.2.2.2.1, .int .i64 x.2.2.2.2.2.2.1], .arr (.int .i64) x.2.2.2.2.2.2.2])
def spec_BaseOk_e6 : ((Bool × Int × (List dVersion) × (List dTxn) × (List dTxn) × Int × Int × (List Int)) ⊕ (Bool × Int × (List dVersion) × (List dTxn) × (List dTxn) × Int × Int × (List Int))) → Out × List AV × St := (Sum.elim (fun z => ((.exit 6), [.bp 0 0, .bool z.1, .own 1, .int .i64 z.2.1], [.box [.lst tVersion z.2.2.1, .lst tTxn z.2.2.2.1, .lst tTxn z.2.2.2.2.1, .int .i64 z.2.2.2.2.2.1, .int .i64 z.2.2.2.2.2.2.1], .arr (.int .i64) z.2.2.2.2.2.2.2])) (fun z => (.ret, [.bp 0 0, .bool z.1, .own 1, .int .i64 z.2.1], [.box [.lst tVersion z.2.2.1, .lst tTxn z.2.2.2.1, .lst tTxn z.2.2.2.2.1, .int .i64 z.2.2.2.2.2.1, .int .i64 z.2.2.2.2.2.2.1], .arr (.int .i64) z.2.2.2.2.2.2.2])))

theorem spec_BaseOk_bx6 (x : (Bool × Int × (List dVersion) × (List dTxn) × (List dTxn) × Int × Int × (List Int))) : exec G28 ⟨0, 179, spec_BaseOk_loops⟩ (loopBody Try.f77 6) (bodyK ⟨0, 179, spec_BaseOk_loops⟩ [1, 2, 4, 9] []) (setEs (deads 179) [1, 2, 4, 9] (spec_BaseOk_v6 x)) (spec_BaseOk_s6 x) = spec_BaseOk_b6 x (Sum.elim (fun y => some ⟨.norm, spec_BaseOk_v6 y, spec_BaseOk_s6 y⟩) fun z => some ⟨(spec_BaseOk_e6 z).1, (spec_BaseOk_e6 z).2.1, (spec_BaseOk_e6 z).2.2⟩) := by
  kernel_rfl

theorem spec_BaseOk_lo6 : ∀ sp, (spec_BaseOk_loops 6) = some sp → LoopOk G28 ⟨0, 179, spec_BaseOk_loops⟩ sp (loopBody Try.f77 6) := by
  intro sp hsp vals st k r h
  cases hsp
  dsimp only at h
  rcases onPats_inv2 h with ⟨p, q, rfl, rfl, h⟩ | h
  · exact loop_runs2 spec_BaseOk_bp6 spec_BaseOk_v6 spec_BaseOk_s6 spec_BaseOk_e6 (fun z => by rcases z with z | z <;> (intro h; cases h)) spec_BaseOk_bx6 Fuel (p.2.1, p.2.2.2.1, q.1.1, q.1.2.1, q.1.2.2.1, q.1.2.2.2.1, q.1.2.2.2.2.1, q.2.1) _ k r (fun z => by rcases z with z | z <;> rfl) h
  cases h

def spec_BaseOk_jv5000003 : (Bool × (List dVersion) × (List dTxn) × (List dTxn) × Int × Int) → List AV := (fun x => [.bp 0 0, .bool x.1])
def spec_BaseOk_js5000003 : (Bool × (List dVersion) × (List dTxn) × (List dTxn) × Int × Int) → St := (fun x => [.box [.lst tVersion x.2.1, .lst tTxn x.2.2.1, .lst tTxn x.2.2.2.1, .int .i64 x.2.2.2.2.1, .int .i64 x.2.2.2.2.2]])
def spec_BaseOk_je5000003 : (Bool × (List dVersion) × (List dTxn) × (List dTxn) × Int × Int) → Out × List AV × St := (fun z => (.ret, [.bp 0 0, .bool z.1], [.box [.lst tVersion z.2.1, .lst tTxn z.2.2.1, .lst tTxn z.2.2.2.1, .int .i64 z.2.2.2.2.1, .int .i64 z.2.2.2.2.2]]))

theorem spec_BaseOk_jx5000003 (x : (Bool × (List dVersion) × (List dTxn) × (List dTxn) × Int × Int)) : exec G28 ⟨0, 179, spec_BaseOk_loops⟩ (loopBody Try.f77 5000003) (bodyK ⟨0, 179, spec_BaseOk_loops⟩ [1, 2] []) (setEs (deads 179) [1, 2] (spec_BaseOk_jv5000003 x)) (spec_BaseOk_js5000003 x) = spec_BaseOk_j5000003 x (fun z => some ⟨(spec_BaseOk_je5000003 z).1, (spec_BaseOk_je5000003 z).2.1, (spec_BaseOk_je5000003 z).2.2⟩) := by
  kernel_rfl

theorem spec_BaseOk_lo5000003 : ∀ sp, (spec_BaseOk_loops 5000003) = some sp → CutOk G28 ⟨0, 179, spec_BaseOk_loops⟩ sp (loopBody Try.f77 5000003) := by
  intro sp hsp vals st k r h
  cases hsp
  dsimp only at h
  rcases onPats_inv2 h with ⟨p, q, rfl, rfl, h⟩ | h
  · exact cut_runs spec_BaseOk_jp5000003 spec_BaseOk_jv5000003 spec_BaseOk_js5000003 spec_BaseOk_je5000003 spec_BaseOk_jx5000003 (p.2.1, q.1.1, q.1.2.1, q.1.2.2.1, q.1.2.2.2.1, q.1.2.2.2.2.1) _ k r (fun z => rfl) h
  cases h

theorem spec_BaseOk_x (a0 : (List dVersion)) (a1 : (List dTxn)) (a2 : (List dTxn)) (a3 : Int) (a4 : Int) : execFn G28 spec_BaseOk_loops Try.f77 [.agg [.lst tVersion a0, .lst tTxn a1, .lst tTxn a2, .int .i64 a3, .int .i64 a4]] [] = spec_BaseOk_d (a0, (a1, (a2, (a3, a4)))) (fun (y : Bool) => some ⟨.ret, [.bool y], []⟩) := by kernel_rfl

theorem spec_BaseOk_y (a0 : (List dVersion)) (a1 : (List dTxn)) (a2 : (List dTxn)) (a3 : Int) (a4 : Int) : execFn G28 spec_BaseOk_loops Try.f77 [.agg [.lst tVersion a0, .lst tTxn a1, .lst tTxn a2, .int .i64 a3, .int .i64 a4]] [] = spec_BaseOk_k (a0, (a1, (a2, (a3, a4)))) (fun (y : Bool) => some ⟨.ret, [.bool y], []⟩) := (spec_BaseOk_x a0 a1 a2 a3 a4).trans (by rw [spec_BaseOk_e])

theorem spec_BaseOk_l : LoopsOk G28 ⟨0, 179, spec_BaseOk_loops⟩ (Try.f77.body.getD .skip) :=
  loopsOk_of (ids := [0, 2, 4, 8, 6, 5000003]) (by kernel_rfl) (by kernel_rfl) ⟨spec_BaseOk_lo0, ⟨spec_BaseOk_lo2, ⟨spec_BaseOk_lo4, ⟨spec_BaseOk_lo8, ⟨spec_BaseOk_lo6, ⟨spec_BaseOk_lo5000003, trivial⟩⟩⟩⟩⟩⟩

theorem spec_BaseOk_c : Contract Try.prog 77 spec_BaseOk_g := by
  refine told G28_ok follows Try.func77 (c := Try.f77.body.getD .skip) (by kernel_rfl) ?_
  intro args s k r hk
  unfold spec_BaseOk_g at hk
  rcases onPats_inv hk with ⟨p, q, rfl, rfl⟩ | hk
  · exact ⟨spec_BaseOk_loops, spec_BaseOk_q p.1.1 p.1.2.1 p.1.2.2.1 p.1.2.2.2.1 p.1.2.2.2.2.1, spec_BaseOk_y p.1.1 p.1.2.1 p.1.2.2.1 p.1.2.2.2.1 p.1.2.2.2.2.1, spec_BaseOk_l⟩
  cases hk

def G29 : Glob := G28.add 77 spec_BaseOk_g

theorem G29_ok : GlobOk Try.prog G29 := G28_ok.add ⟨Try.f77, Try.func77, by kernel_rfl, by kernel_rfl⟩ spec_BaseOk_c

/-! ### loop.example/g00327/spec.l10NoBase -/

def spec_l10NoBase_loops : Nat → Option LoopSpec
  | _ => none

theorem spec_l10NoBase_x (a0 : (List dVersion)) (a1 : (List dTxn)) (a2 : (List dTxn)) (a3 : Int) (a4 : Int) : execFn G29 spec_l10NoBase_loops Try.f97 [.agg [.lst tVersion a0, .lst tTxn a1, .lst tTxn a2, .int .i64 a3, .int .i64 a4]] [] = spec_l10NoBase_d (a0, (a1, (a2, (a3, a4)))) (fun (y : Bool) => some ⟨.ret, [.bool y], []⟩) := by kernel_rfl

theorem spec_l10NoBase_y (a0 : (List dVersion)) (a1 : (List dTxn)) (a2 : (List dTxn)) (a3 : Int) (a4 : Int) : execFn G29 spec_l10NoBase_loops Try.f97 [.agg [.lst tVersion a0, .lst tTxn a1, .lst tTxn a2, .int .i64 a3, .int .i64 a4]] [] = spec_l10NoBase_k (a0, (a1, (a2, (a3, a4)))) (fun (y : Bool) => some ⟨.ret, [.bool y], []⟩) := (spec_l10NoBase_x a0 a1 a2 a3 a4).trans (by rw [spec_l10NoBase_e])

theorem spec_l10NoBase_l : LoopsOk G29 ⟨0, 29, spec_l10NoBase_loops⟩ (Try.f97.body.getD .skip) :=
  loopsOk_of (ids := []) (by kernel_rfl) (by kernel_rfl) trivial

theorem spec_l10NoBase_c : Contract Try.prog 97 spec_l10NoBase_g := by
  refine told G29_ok follows Try.func97 (c := Try.f97.body.getD .skip) (by kernel_rfl) ?_
  intro args s k r hk
  unfold spec_l10NoBase_g at hk
  rcases onPats_inv hk with ⟨p, q, rfl, rfl⟩ | hk
  · exact ⟨spec_l10NoBase_loops, spec_l10NoBase_q p.1.1 p.1.2.1 p.1.2.2.1 p.1.2.2.2.1 p.1.2.2.2.2.1, spec_l10NoBase_y p.1.1 p.1.2.1 p.1.2.2.1 p.1.2.2.2.1 p.1.2.2.2.2.1, spec_l10NoBase_l⟩
  cases hk

def G30 : Glob := G29.add 97 spec_l10NoBase_g

theorem G30_ok : GlobOk Try.prog G30 := G29_ok.add ⟨Try.f97, Try.func97, by kernel_rfl, by kernel_rfl⟩ spec_l10NoBase_c

/-! ### loop.example/g00327/spec.RecordOk -/

def spec_RecordOk_loops : Nat → Option LoopSpec
  | 5000008 => some ⟨[1, 2], [], fun vals st k => onPats [.bp 0 0, .bool] [.box [.int .i64, .int .i64, .int .i64, .int .i64, .int .i64, .lst tRange, .lst tWrite, .bool, .str, .str, .bool, .lst tVersion, .lst tTxn, .lst tTxn, .int .i64, .int .i64]] vals st (fun p q => spec_RecordOk_j5000008 (p.2.1, q.1.1, q.1.2.1, q.1.2.2.1, q.1.2.2.2.1, q.1.2.2.2.2.1, q.1.2.2.2.2.2.1, q.1.2.2.2.2.2.2.1, q.1.2.2.2.2.2.2.2.1, q.1.2.2.2.2.2.2.2.2.1, q.1.2.2.2.2.2.2.2.2.2.1, q.1.2.2.2.2.2.2.2.2.2.2.1, q.1.2.2.2.2.2.2.2.2.2.2.2.1, q.1.2.2.2.2.2.2.2.2.2.2.2.2.1, q.1.2.2.2.2.2.2.2.2.2.2.2.2.2.1, q.1.2.2.2.2.2.2.2.2.2.2.2.2.2.2.1, q.1.2.2.2.2.2.2.2.2.2.2.2.2.2.2.2.1) (fun z => k .ret [.bp 0 0, .bool z.1] [.box [.int .i64 z.2.1, .int .i64 z.2.2.1, .int .i64 z.2.2.2.1, .int .i64 z.2.2.2.2.1, .int .i64 z.2.2.2.2.2.1, .lst tRange z.2.2.2.2.2.2.1, .lst tWrite z.2.2.2.2.2.2.2.1, .bool z.2.2.2.2.2.2.2.2.1, .str z.2.2.2.2.2.2.2.2.2.1, .str z.2.2.2.2.2.2.2.2.2.2.1, .bool z.2.2.2.2.2.2.2.2.2.2.2.1, .lst tVersion z.2.2.2.2.2.2.2.2.2.2.2.2.1, .lst tTxn z.2.2.2.2.2.2.2.2.2.2.2.2.2.1, .lst tTxn z.2.2.2.2.2.2.2.2.2.2.2.2.2.2.1, .int .i64 z.2.2.2.2.2.2.2.2.2.2.2.2.2.2.2.1, .int .i64 z.2.2.2.2.2.2.2.2.2.2.2.2.2.2.2.2]]))
      (none)⟩
  | 5000006 => some ⟨[1, 2], [], fun vals st k => onPats [.bp 0 0, .bool] [.box [.int .i64, .int .i64, .int .i64, .int .i64, .int .i64, .lst tRange, .lst tWrite, .bool, .str, .str, .bool, .lst tVersion, .lst tTxn, .lst tTxn, .int .i64, .int .i64]] vals st (fun p q => spec_RecordOk_j5000006 (p.2.1, q.1.1, q.1.2.1, q.1.2.2.1, q.1.2.2.2.1, q.1.2.2.2.2.1, q.1.2.2.2.2.2.1, q.1.2.2.2.2.2.2.1, q.1.2.2.2.2.2.2.2.1, q.1.2.2.2.2.2.2.2.2.1, q.1.2.2.2.2.2.2.2.2.2.1, q.1.2.2.2.2.2.2.2.2.2.2.1, q.1.2.2.2.2.2.2.2.2.2.2.2.1, q.1.2.2.2.2.2.2.2.2.2.2.2.2.1, q.1.2.2.2.2.2.2.2.2.2.2.2.2.2.1, q.1.2.2.2.2.2.2.2.2.2.2.2.2.2.2.1, q.1.2.2.2.2.2.2.2.2.2.2.2.2.2.2.2.1) (fun z => k .ret [.bp 0 0, .bool z.1] [.box [.int .i64 z.2.1, .int .i64 z.2.2.1, .int .i64 z.2.2.2.1, .int .i64 z.2.2.2.2.1, .int .i64 z.2.2.2.2.2.1, .lst tRange z.2.2.2.2.2.2.1, .lst tWrite z.2.2.2.2.2.2.2.1, .bool z.2.2.2.2.2.2.2.2.1, .str z.2.2.2.2.2.2.2.2.2.1, .str z.2.2.2.2.2.2.2.2.2.2.1, .bool z.2.2.2.2.2.2.2.2.2.2.2.1, .lst tVersion z.2.2.2.2.2.2.2.2.2.2.2.2.1, .lst tTxn z.2.2.2.2.2.2.2.2.2.2.2.2.2.1, .lst tTxn z.2.2.2.2.2.2.2.2.2.2.2.2.2.2.1, .int .i64 z.2.2.2.2.2.2.2.2.2.2.2.2.2.2.2.1, .int .i64 z.2.2.2.2.2.2.2.2.2.2.2.2.2.2.2.2]]))
      (none)⟩
  | 5000004 => some ⟨[1, 2, 3], [], fun vals st k => onPats [.bp 0 0, .bool, .bool] [.box [.int .i64, .int .i64, .int .i64, .int .i64, .int .i64, .lst tRange, .lst tWrite, .bool, .str, .str, .bool, .lst tVersion, .lst tTxn, .lst tTxn, .int .i64, .int .i64]] vals st (fun p q => spec_RecordOk_j5000004 (p.2.1, p.2.2.1, q.1.1, q.1.2.1, q.1.2.2.1, q.1.2.2.2.1, q.1.2.2.2.2.1, q.1.2.2.2.2.2.1, q.1.2.2.2.2.2.2.1, q.1.2.2.2.2.2.2.2.1, q.1.2.2.2.2.2.2.2.2.1, q.1.2.2.2.2.2.2.2.2.2.1, q.1.2.2.2.2.2.2.2.2.2.2.1, q.1.2.2.2.2.2.2.2.2.2.2.2.1, q.1.2.2.2.2.2.2.2.2.2.2.2.2.1, q.1.2.2.2.2.2.2.2.2.2.2.2.2.2.1, q.1.2.2.2.2.2.2.2.2.2.2.2.2.2.2.1, q.1.2.2.2.2.2.2.2.2.2.2.2.2.2.2.2.1) (Sum.elim (fun z => k .ret [.bp 0 0, .bool z.1, .bool z.2.1] [.box [.int .i64 z.2.2.1, .int .i64 z.2.2.2.1, .int .i64 z.2.2.2.2.1, .int .i64 z.2.2.2.2.2.1, .int .i64 z.2.2.2.2.2.2.1, .lst tRange z.2.2.2.2.2.2.2.1, .lst tWrite z.2.2.2.2.2.2.2.2.1, .bool z.2.2.2.2.2.2.2.2.2.1, .str z.2.2.2.2.2.2.2.2.2.2.1, .str z.2.2.2.2.2.2.2.2.2.2.2.1, .bool z.2.2.2.2.2.2.2.2.2.2.2.2.1, .lst tVersion z.2.2.2.2.2.2.2.2.2.2.2.2.2.1, .lst tTxn z.2.2.2.2.2.2.2.2.2.2.2.2.2.2.1, .lst tTxn z.2.2.2.2.2.2.2.2.2.2.2.2.2.2.2.1, .int .i64 z.2.2.2.2.2.2.2.2.2.2.2.2.2.2.2.2.1, .int .i64 z.2.2.2.2.2.2.2.2.2.2.2.2.2.2.2.2.2]]) (fun z => k .ret [.bp 0 0, .bool z.1, .dead] [.box [.int .i64 z.2.1, .int .i64 z.2.2.1, .int .i64 z.2.2.2.1, .int .i64 z.2.2.2.2.1, .int .i64 z.2.2.2.2.2.1, .lst tRange z.2.2.2.2.2.2.1, .lst tWrite z.2.2.2.2.2.2.2.1, .bool z.2.2.2.2.2.2.2.2.1, .str z.2.2.2.2.2.2.2.2.2.1, .str z.2.2.2.2.2.2.2.2.2.2.1, .bool z.2.2.2.2.2.2.2.2.2.2.2.1, .lst tVersion z.2.2.2.2.2.2.2.2.2.2.2.2.1, .lst tTxn z.2.2.2.2.2.2.2.2.2.2.2.2.2.1, .lst tTxn z.2.2.2.2.2.2.2.2.2.2.2.2.2.2.1, .int .i64 z.2.2.2.2.2.2.2.2.2.2.2.2.2.2.2.1, .int .i64 z.2.2.2.2.2.2.2.2.2.2.2.2.2.2.2.2]])))
      (none)⟩
  | _ => none

def spec_RecordOk_jv5000008 : (Bool × Int × Int × Int × Int × Int × (List dRange) × (List dWrite) × Bool × ByteArray × ByteArray × Bool × (List dVersion) × (List dTxn) × (List dTxn) × Int × Int) → List AV := (fun x => [.bp 0 0, .bool x.1])
def spec_RecordOk_js5000008 : (Bool × Int × Int × Int × Int × Int × (List dRange) × (List dWrite) × Bool × ByteArray × ByteArray × Bool × (List dVersion) × (List dTxn) × (List dTxn) × Int × Int) → St := (fun x => [.box [.int .i64 x.2.1, .int .i64 x.2.2.1, .int .i64 x.2.2.2.1, .int .i64 x.2.2.2.2.1, .int .i64 x.2.2.2.2.2.1, .lst tRange x.2.2.2.2.2.2.1, .lst tWrite x.2.2.2.2.2.2.2.1, .bool x.2.2.2.2.2.2.2.2.1, .str x.2.2.2.2.2.2.2.2.2.1, .str x.2.2.2.2.2.2.2.2.2.2.1, .bool x.2.2.2.2.2.2.2.2.2.2.2.1, .lst tVersion x.2.2.2.2.2.2.2.2.2.2.2.2.1, .lst tTxn x.2.2.2.2.2.2.2.2.2.2.2.2.2.1, .lst tTxn x.2.2.2.2.2.2.2.2.2.2.2.2.2.2.1, .int .i64 x.2.2.2.2.2.2.2.2.2.2.2.2.2.2.2.1, .int .i64 x.2.2.2.2.2.2.2.2.2.2.2.2.2.2.2.2]])
def spec_RecordOk_je5000008 : (Bool × Int × Int × Int × Int × Int × (List dRange) × (List dWrite) × Bool × ByteArray × ByteArray × Bool × (List dVersion) × (List dTxn) × (List dTxn) × Int × Int) → Out × List AV × St := (fun z => (.ret, [.bp 0 0, .bool z.1], [.box [.int .i64 z.2.1, .int .i64 z.2.2.1, .int .i64 z.2.2.2.1, .int .i64 z.2.2.2.2.1, .int .i64 z.2.2.2.2.2.1, .lst tRange z.2.2.2.2.2.2.1, .lst tWrite z.2.2.2.2.2.2.2.1, .bool z.2.2.2.2.2.2.2.2.1, .str z.2.2.2.2.2.2.2.2.2.1, .str z.2.2.2.2.2.2.2.2.2.2.1, .bool z.2.2.2.2.2.2.2.2.2.2.2.1, .lst tVersion z.2.2.2.2.2.2.2.2.2.2.2.2.1, .lst tTxn z.2.2.2.2.2.2.2.2.2.2.2.2.2.1, .lst tTxn z.2.2.2.2.2.2.2.2.2.2.2.2.2.2.1, .int .i64 z.2.2.2.2.2.2.2.2.2.2.2.2.2.2.2.1, .int .i64 z.2.2.2.2.2.2.2.2.2.2.2.2.2.2.2.2]]))

theorem spec_RecordOk_jx5000008 (x : (Bool × Int × Int × Int × Int × Int × (List dRange) × (List dWrite) × Bool × ByteArray × ByteArray × Bool × (List dVersion) × (List dTxn) × (List dTxn) × Int × Int)) : exec G30 ⟨0, 87, spec_RecordOk_loops⟩ (loopBody Try.f38 5000008) (bodyK ⟨0, 87, spec_RecordOk_loops⟩ [1, 2] []) (setEs (deads 87) [1, 2] (spec_RecordOk_jv5000008 x)) (spec_RecordOk_js5000008 x) = spec_RecordOk_j5000008 x (fun z => some ⟨(spec_RecordOk_je5000008 z).1, (spec_RecordOk_je5000008 z).2.1, (spec_RecordOk_je5000008 z).2.2⟩) := by
  kernel_rfl

theorem spec_RecordOk_lo5000008 : ∀ sp, (spec_RecordOk_loops 5000008) = some sp → CutOk G30 ⟨0, 87, spec_RecordOk_loops⟩ sp (loopBody Try.f38 5000008) := by
  intro sp hsp vals st k r h
  cases hsp
  dsimp only at h
  rcases onPats_inv2 h with ⟨p, q, rfl, rfl, h⟩ | h
  · exact cut_runs spec_RecordOk_jp5000008 spec_RecordOk_jv5000008 spec_RecordOk_js5000008 spec_RecordOk_je5000008 spec_RecordOk_jx5000008 (p.2.1, q.1.1, q.1.2.1, q.1.2.2.1, q.1.2.2.2.1, q.1.2.2.2.2.1, q.1.2.2.2.2.2.1, q.1.2.2.2.2.2.2.1, q.1.2.2.2.2.2.2.2.1, q.1.2.2.2.2.2.2.2.2.1, q.1.2.2.2.2.2.2.2.2.2.1, q.1.2.2.2.2.2.2.2.2.2.2.1, q.1.2.2.2.2.2.2.2.2.2.2.2.1, q.1.2.2.2.2.2.2.2.2.2.2.2.2.1, q.1.2.2.2.2.2.2.2.2.2.2.2.2.2.1, q.1.2.2.2.2.2.2.2.2.2.2.2.2.2.2.1, q.1.2.2.2.2.2.2.2.2.2.2.2.2.2.2.2.1) _ k r (fun z => rfl) h
  cases h

def spec_RecordOk_jv5000006 : (Bool × Int × Int × Int × Int × Int × (List dRange) × (List dWrite) × Bool × ByteArray × ByteArray × Bool × (List dVersion) × (List dTxn) × (List dTxn) × Int × Int) → List AV := (fun x => [.bp 0 0, .bool x.1])
def spec_RecordOk_js5000006 : (Bool × Int × Int × Int × Int × Int × (List dRange) × (List dWrite) × Bool × ByteArray × ByteArray × Bool × (List dVersion) × (List dTxn) × (List dTxn) × Int × Int) → St := (fun x => [.box [.int .i64 x.2.1, .int .i64 x.2.2.1, .int .i64 x.2.2.2.1, .int .i64 x.2.2.2.2.1, .int .i64 x.2.2.2.2.2.1, .lst tRange x.2.2.2.2.2.2.1, .lst tWrite x.2.2.2.2.2.2.2.1, .bool x.2.2.2.2.2.2.2.2.1, .str x.2.2.2.2.2.2.2.2.2.1, .str x.2.2.2.2.2.2.2.2.2.2.1, .bool x.2.2.2.2.2.2.2.2.2.2.2.1, .lst tVersion x.2.2.2.2.2.2.2.2.2.2.2.2.1, .lst tTxn x.2.2.2.2.2.2.2.2.2.2.2.2.2.1, .lst tTxn x.2.2.2.2.2.2.2.2.2.2.2.2.2.2.1, .int .i64 x.2.2.2.2.2.2.2.2.2.2.2.2.2.2.2.1, .int .i64 x.2.2.2.2.2.2.2.2.2.2.2.2.2.2.2.2]])
def spec_RecordOk_je5000006 : (Bool × Int × Int × Int × Int × Int × (List dRange) × (List dWrite) × Bool × ByteArray × ByteArray × Bool × (List dVersion) × (List dTxn) × (List dTxn) × Int × Int) → Out × List AV × St := (fun z => (.ret, [.bp 0 0, .bool z.1], [.box [.int .i64 z.2.1, .int .i64 z.2.2.1, .int .i64 z.2.2.2.1, .int .i64 z.2.2.2.2.1, .int .i64 z.2.2.2.2.2.1, .lst tRange z.2.2.2.2.2.2.1, .lst tWrite z.2.2.2.2.2.2.2.1, .bool z.2.2.2.2.2.2.2.2.1, .str z.2.2.2.2.2.2.2.2.2.1, .str z.2.2.2.2.2.2.2.2.2.2.1, .bool z.2.2.2.2.2.2.2.2.2.2.2.1, .lst tVersion z.2.2.2.2.2.2.2.2.2.2.2.2.1, .lst tTxn z.2.2.2.2.2.2.2.2.2.2.2.2.2.1, .lst tTxn z.2.2.2.2.2.2.2.2.2.2.2.2.2.2.1, .int .i64 z.2.2.2.2.2.2.2.2.2.2.2.2.2.2.2.1, .int .i64 z.2.2.2.2.2.2.2.2.2.2.2.2.2.2.2.2]]))

theorem spec_RecordOk_jx5000006 (x : (Bool × Int × Int × Int × Int × Int × (List dRange) × (List dWrite) × Bool × ByteArray × ByteArray × Bool × (List dVersion) × (List dTxn) × (List dTxn) × Int × Int)) : exec G30 ⟨0, 87, spec_RecordOk_loops⟩ (loopBody Try.f38 5000006) (bodyK ⟨0, 87, spec_RecordOk_loops⟩ [1, 2] []) (setEs (deads 87) [1, 2] (spec_RecordOk_jv5000006 x)) (spec_RecordOk_js5000006 x) = spec_RecordOk_j5000006 x (fun z => some ⟨(spec_RecordOk_je5000006 z).1, (spec_RecordOk_je5000006 z).2.1, (spec_RecordOk_je5000006 z).2.2⟩) := by
  kernel_rfl

theorem spec_RecordOk_lo5000006 : ∀ sp, (spec_RecordOk_loops 5000006) = some sp → CutOk G30 ⟨0, 87, spec_RecordOk_loops⟩ sp (loopBody Try.f38 5000006) := by
  intro sp hsp vals st k r h
  cases hsp
  dsimp only at h
  rcases onPats_inv2 h with ⟨p, q, rfl, rfl, h⟩ | h
  · exact cut_runs spec_RecordOk_jp5000006 spec_RecordOk_jv5000006 spec_RecordOk_js5000006 spec_RecordOk_je5000006 spec_RecordOk_jx5000006 (p.2.1, q.1.1, q.1.2.1, q.1.2.2.1, q.1.2.2.2.1, q.1.2.2.2.2.1, q.1.2.2.2.2.2.1, q.1.2.2.2.2.2.2.1, q.1.2.2.2.2.2.2.2.1, q.1.2.2.2.2.2.2.2.2.1, q.1.2.2.2.2.2.2.2.2.2.1, q.1.2.2.2.2.2.2.2.2.2.2.1, q.1.2.2.2.2.2.2.2.2.2.2.2.1, q.1.2.2.2.2.2.2.2.2.2.2.2.2.1, q.1.2.2.2.2.2.2.2.2.2.2.2.2.2.1, q.1.2.2.2.2.2.2.2.2.2.2.2.2.2.2.1, q.1.2.2.2.2.2.2.2.2.2.2.2.2.2.2.2.1) _ k r (fun z => rfl) h
  cases h

def spec_RecordOk_jv5000004 : (Bool × Bool × Int × Int × Int × Int × Int × (List dRange) × (List dWrite) × Bool × ByteArray × ByteArray × Bool × (List dVersion) × (List dTxn) × (List dTxn) × Int × Int) → List AV := (fun x => [.bp 0 0, .bool x.1, .bool x.2.1])
def spec_RecordOk_js5000004 : (Bool × Bool × Int × Int × Int × Int × Int × (List dRange) × (List dWrite) × Bool × ByteArray × ByteArray × Bool × (List dVersion) × (List dTxn) × (List dTxn) × Int × Int) → St := (fun x => [.box [.int .i64 x.2.2.1, .int .i64 x.2.2.2.1, .int .i64 x.2.2.2.2.1, .int .i64 x.2.2.2.2.2.1, .int .i64 x.2.2.2.2.2.2.1, .lst tRange x.2.2.2.2.2.2.2.1, .lst tWrite x.2.2.2.2.2.2.2.2.1, .bool x.2.2.2.2.2.2.2.2.2.1, .str x.2.2.2.2.2.2.2.2.2.2.1, .str x.2.2.2.2.2.2.2.2.2.2.2.1, .bool x.2.2.2.2.2.2.2.2.2.2.2.2.1, .lst tVersion x.2.2.2.2.2.2.2.2.2.2.2.2.2.1, .lst tTxn x.2.2.2.2.2.2.2.2.2.2.2.2.2.2.1, .lst tTxn x.2.2.2.2.2.2.2.2.2.2.2.2.2.2.2.1, .int .i64 x.2.2.2.2.2.2.2.2.2.2.2.2.2.2.2.2.1, .int .i64 x.2.2.2.2.2.2.2.2.2.2.2.2.2.2.2.2.2]])
def spec_RecordOk_je5000004 : ((Bool × Bool × Int × Int × Int × Int × Int × (List dRange) × (List dWrite) × Bool × ByteArray × ByteArray × Bool × (List dVersion) × (List dTxn) × (List dTxn) × Int × Int) ⊕ (Bool × Int × Int × Int × Int × Int × (List dRange) × (List dWrite) × Bool × ByteArray × ByteArray × Bool × (List dVersion) × (List dTxn) × (List dTxn) × Int × Int)) → Out × List AV × St := (Sum.elim (fun z => (.ret, [.bp 0 0, .bool z.1, .bool z.2.1], [.box [.int .i64 z.2.2.1, .int .i64 z.2.2.2.1, .int .i64 z.2.2.2.2.1, .int .i64 z.2.2.2.2.2.1, .int .i64 z.2.2.2.2.2.2.1, .lst tRange z.2.2.2.2.2.2.2.1, .lst tWrite z.2.2.2.2.2.2.2.2.1, .bool z.2.2.2.2.2.2.2.2.2.1, .str z.2.2.2.2.2.2.2.2.2.2.1, .str z.2.2.2.2.2.2.2.2.2.2.2.1, .bool z.2.2.2.2.2.2.2.2.2.2.2.2.1, .lst tVersion z.2.2.2.2.2.2.2.2.2.2.2.2.2.1, .lst tTxn z.2.2.2.2.2.2.2.2.2.2.2.2.2.2.1, .lst tTxn z.2.2.2.2.2.2.2.2.2.2.2.2.2.2.2.1, .int .i64 z.2.2.2.2.2.2.2.2.2.2.2.2.2.2.2.2.1, .int .i64 z.2.2.2.2.2.2.2.2.2.2.2.2.2.2.2.2.2]])) (fun z => (.ret, [.bp 0 0, .bool z.1, .dead], [.box [.int .i64 z.2.1, .int .i64 z.2.2.1, .int .i64 z.2.2.2.1, .int .i64 z.2.2.2.2.1, .int .i64 z.2.2.2.2.2.1, .lst tRange z.2.2.2.2.2.2.1, .lst tWrite z.2.2.2.2.2.2.2.1, .bool z.2.2.2.2.2.2.2.2.1, .str z.2.2.2.2.2.2.2.2.2.1, .str z.2.2.2.2.2.2.2.2.2.2.1, .bool z.2.2.2.2.2.2.2.2.2.2.2.1, .lst tVersion z.2.2.2.2.2.2.2.2.2.2.2.2.1, .lst tTxn z.2.2.2.2.2.2.2.2.2.2.2.2.2.1, .lst tTxn z.2.2.2.2.2.2.2.2.2.2.2.2.2.2.1, .int .i64 z.2.2.2.2.2.2.2.2.2.2.2.2.2.2.2.1, .int .i64 z.2.2.2.2.2.2.2.2.2.2.2.2.2.2.2.2]])))

theorem spec_RecordOk_jx5000004 (x : (Bool × Bool × Int × Int × Int × Int × Int × (List dRange) × (List dWrite) × Bool × ByteArray × ByteArray × Bool × (List dVersion) × (List dTxn) × (List dTxn) × Int × Int)) : exec G30 ⟨0, 87, spec_RecordOk_loops⟩ (loopBody Try.f38 5000004) (bodyK ⟨0, 87, spec_RecordOk_loops⟩ [1, 2, 3] []) (setEs (deads 87) [1, 2, 3] (spec_RecordOk_jv5000004 x)) (spec_RecordOk_js5000004 x) = spec_RecordOk_j5000004 x (fun z => some ⟨(spec_RecordOk_je5000004 z).1, (spec_RecordOk_je5000004 z).2.1, (spec_RecordOk_je5000004 z).2.2⟩) := by
  kernel_rfl

theorem spec_RecordOk_lo5000004 : ∀ sp, (spec_RecordOk_loops 5000004) = some sp → CutOk G30 ⟨0, 87, spec_RecordOk_loops⟩ sp (loopBody Try.f38 5000004) := by
  intro sp hsp vals st k r h
  cases hsp
  dsimp only at h
  rcases onPats_inv2 h with ⟨p, q, rfl, rfl, h⟩ | h
  · exact cut_runs spec_RecordOk_jp5000004 spec_RecordOk_jv5000004 spec_RecordOk_js5000004 spec_RecordOk_je5000004 spec_RecordOk_jx5000004 (p.2.1, p.2.2.1, q.1.1, q.1.2.1, q.1.2.2.1, q.1.2.2.2.1, q.1.2.2.2.2.1, q.1.2.2.2.2.2.1, q.1.2.2.2.2.2.2.1, q.1.2.2.2.2.2.2.2.1, q.1.2.2.2.2.2.2.2.2.1, q.1.2.2.2.2.2.2.2.2.2.1, q.1.2.2.2.2.2.2.2.2.2.2.1, q.1.2.2.2.2.2.2.2.2.2.2.2.1, q.1.2.2.2.2.2.2.2.2.2.2.2.2.1, q.1.2.2.2.2.2.2.2.2.2.2.2.2.2.1, q.1.2.2.2.2.2.2.2.2.2.2.2.2.2.2.1, q.1.2.2.2.2.2.2.2.2.2.2.2.2.2.2.2.1) _ k r (fun z => by rcases z with z | z <;> rfl) h
  cases h

theorem spec_RecordOk_x (a0 : Int) (a1 : Int) (a2 : Int) (a3 : Int) (a4 : Int) (a5 : (List dRange)) (a6 : (List dWrite)) (a7 : Bool) (a8 : ByteArray) (a9 : ByteArray) (a10 : Bool) (a11 : (List dVersion)) (a12 : (List dTxn)) (a13 : (List dTxn)) (a14 : Int) (a15 : Int) : execFn G30 spec_RecordOk_loops Try.f38 [.agg [.int .i64 a0, .int .i64 a1, .int .i64 a2, .int .i64 a3, .int .i64 a4, .lst tRange a5, .lst tWrite a6, .bool a7, .str a8, .str a9, .bool a10, .lst tVersion a11, .lst tTxn a12, .lst tTxn a13, .int .i64 a14, .int .i64 a15]] [] = spec_RecordOk_d (a0, ((a1, (a2, (a3, (a4, (a5, (a6, (a7, a8))))))), (a9, (a10, (a11, (a12, (a13, (a14, a15)))))))) (fun (y : Bool) => some ⟨.ret, [.bool y], []⟩) := by kernel_rfl

theorem spec_RecordOk_y (a0 : Int) (a1 : Int) (a2 : Int) (a3 : Int) (a4 : Int) (a5 : (List dRange)) (a6 : (List dWrite)) (a7 : Bool) (a8 : ByteArray) (a9 : ByteArray) (a10 : Bool) (a11 : (List dVersion)) (a12 : (List dTxn)) (a13 : (List dTxn)) (a14 : Int) (a15 : Int) : execFn G30 spec_RecordOk_loops Try.f38 [.agg [.int .i64 a0, .int .i64 a1, .int .i64 a2, .int .i64 a3, .int .i64 a4, .lst tRange a5, .lst tWrite a6, .bool a7, .str a8, .str a9, .bool a10, .lst tVersion a11, .lst tTxn a12, .lst tTxn a13, .int .i64 a14, .int .i64 a15]] [] = spec_RecordOk_k (a0, ((a1, (a2, (a3, (a4, (a5, (a6, (a7, a8))))))), (a9, (a10, (a11, (a12, (a13, (a14, a15)))))))) (fun (y : Bool) => some ⟨.ret, [.bool y], []⟩) := (spec_RecordOk_x a0 a1 a2 a3 a4 a5 a6 a7 a8 a9 a10 a11 a12 a13 a14 a15).trans (by rw [spec_RecordOk_e])

theorem spec_RecordOk_l : LoopsOk G30 ⟨0, 87, spec_RecordOk_loops⟩ (Try.f38.body.getD .skip) :=
  loopsOk_of (ids := [5000008, 5000006, 5000004]) (by kernel_rfl) (by kernel_rfl) ⟨spec_RecordOk_lo5000008, ⟨spec_RecordOk_lo5000006, ⟨spec_RecordOk_lo5000004, trivial⟩⟩⟩

theorem spec_RecordOk_c : Contract Try.prog 38 spec_RecordOk_g := by
  refine told G30_ok follows Try.func38 (c := Try.f38.body.getD .skip) (by kernel_rfl) ?_
  intro args s k r hk
  unfold spec_RecordOk_g at hk
  rcases onPats_inv hk with ⟨p, q, rfl, rfl⟩ | hk
  · exact ⟨spec_RecordOk_loops, spec_RecordOk_q p.1.1 p.1.2.1 p.1.2.2.1 p.1.2.2.2.1 p.1.2.2.2.2.1 p.1.2.2.2.2.2.1 p.1.2.2.2.2.2.2.1 p.1.2.2.2.2.2.2.2.1 p.1.2.2.2.2.2.2.2.2.1 p.1.2.2.2.2.2.2.2.2.2.1 p.1.2.2.2.2.2.2.2.2.2.2.1 p.1.2.2.2.2.2.2.2.2.2.2.2.1 p.1.2.2.2.2.2.2.2.2.2.2.2.2.1 p.1.2.2.2.2.2.2.2.2.2.2.2.2.2.1 p.1.2.2.2.2.2.2.2.2.2.2.2.2.2.2.1 p.1.2.2.2.2.2.2.2.2.2.2.2.2.2.2.2.1, spec_RecordOk_y p.1.1 p.1.2.1 p.1.2.2.1 p.1.2.2.2.1 p.1.2.2.2.2.1 p.1.2.2.2.2.2.1 p.1.2.2.2.2.2.2.1 p.1.2.2.2.2.2.2.2.1 p.1.2.2.2.2.2.2.2.2.1 p.1.2.2.2.2.2.2.2.2.2.1 p.1.2.2.2.2.2.2.2.2.2.2.1 p.1.2.2.2.2.2.2.2.2.2.2.2.1 p.1.2.2.2.2.2.2.2.2.2.2.2.2.1 p.1.2.2.2.2.2.2.2.2.2.2.2.2.2.1 p.1.2.2.2.2.2.2.2.2.2.2.2.2.2.2.1 p.1.2.2.2.2.2.2.2.2.2.2.2.2.2.2.2.1, spec_RecordOk_l⟩
  cases hk

def G31 : Glob := G30.add 38 spec_RecordOk_g

theorem G31_ok : GlobOk Try.prog G31 := G30_ok.add ⟨Try.f38, Try.func38, by kernel_rfl, by kernel_rfl⟩ spec_RecordOk_c

/-! ### loop.example/g00327/impl.emptyTxn -/

def impl_emptyTxn_loops : Nat → Option LoopSpec
  | _ => none

theorem impl_emptyTxn_x (a0 : Int) (a1 : Int) (a2 : Int) (a3 : Int) (a4 : (List dRange)) (a5 : (List dWrite)) (a6 : Bool) (a7 : ByteArray) : execFn G31 impl_emptyTxn_loops Try.f99 [.agg [.int .i64 a0, .int .i64 a1, .int .i64 a2, .int .i64 a3, .lst tRange a4, .lst tWrite a5, .bool a6, .str a7]] [] = impl_emptyTxn_d (a0, (a1, (a2, (a3, (a4, (a5, (a6, a7))))))) (fun (y : Bool) => some ⟨.ret, [.bool y], []⟩) := by kernel_rfl

theorem impl_emptyTxn_y (a0 : Int) (a1 : Int) (a2 : Int) (a3 : Int) (a4 : (List dRange)) (a5 : (List dWrite)) (a6 : Bool) (a7 : ByteArray) : execFn G31 impl_emptyTxn_loops Try.f99 [.agg [.int .i64 a0, .int .i64 a1, .int .i64 a2, .int .i64 a3, .lst tRange a4, .lst tWrite a5, .bool a6, .str a7]] [] = impl_emptyTxn_k (a0, (a1, (a2, (a3, (a4, (a5, (a6, a7))))))) (fun (y : Bool) => some ⟨.ret, [.bool y], []⟩) := (impl_emptyTxn_x a0 a1 a2 a3 a4 a5 a6 a7).trans (by rw [impl_emptyTxn_e])

theorem impl_emptyTxn_l : LoopsOk G31 ⟨0, 43, impl_emptyTxn_loops⟩ (Try.f99.body.getD .skip) :=
  loopsOk_of (ids := []) (by kernel_rfl) (by kernel_rfl) trivial

theorem impl_emptyTxn_c : Contract Try.prog 99 impl_emptyTxn_g := by
  refine told G31_ok follows Try.func99 (c := Try.f99.body.getD .skip) (by kernel_rfl) ?_
  intro args s k r hk
  unfold impl_emptyTxn_g at hk
  rcases onPats_inv hk with ⟨p, q, rfl, rfl⟩ | hk
  · exact ⟨impl_emptyTxn_loops, impl_emptyTxn_q p.1.1 p.1.2.1 p.1.2.2.1 p.1.2.2.2.1 p.1.2.2.2.2.1 p.1.2.2.2.2.2.1 p.1.2.2.2.2.2.2.1 p.1.2.2.2.2.2.2.2.1, impl_emptyTxn_y p.1.1 p.1.2.1 p.1.2.2.1 p.1.2.2.2.1 p.1.2.2.2.2.1 p.1.2.2.2.2.2.1 p.1.2.2.2.2.2.2.1 p.1.2.2.2.2.2.2.2.1, impl_emptyTxn_l⟩
  cases hk

def G32 : Glob := G31.add 99 impl_emptyTxn_g

theorem G32_ok : GlobOk Try.prog G32 := G31_ok.add ⟨Try.f99, Try.func99, by kernel_rfl, by kernel_rfl⟩ impl_emptyTxn_c

/-! ### loop.example/g00327/impl.emptyBase -/

def impl_emptyBase_loops : Nat → Option LoopSpec
  | _ => none

theorem impl_emptyBase_x (a0 : (List dVersion)) (a1 : (List dTxn)) (a2 : (List dTxn)) (a3 : Int) (a4 : Int) : execFn G32 impl_emptyBase_loops Try.f100 [.agg [.lst tVersion a0, .lst tTxn a1, .lst tTxn a2, .int .i64 a3, .int .i64 a4]] [] = impl_emptyBase_d (a0, (a1, (a2, (a3, a4)))) (fun (y : Bool) => some ⟨.ret, [.bool y], []⟩) := by kernel_rfl

theorem impl_emptyBase_y (a0 : (List dVersion)) (a1 : (List dTxn)) (a2 : (List dTxn)) (a3 : Int) (a4 : Int) : execFn G32 impl_emptyBase_loops Try.f100 [.agg [.lst tVersion a0, .lst tTxn a1, .lst tTxn a2, .int .i64 a3, .int .i64 a4]] [] = impl_emptyBase_k (a0, (a1, (a2, (a3, a4)))) (fun (y : Bool) => some ⟨.ret, [.bool y], []⟩) := (impl_emptyBase_x a0 a1 a2 a3 a4).trans (by rw [impl_emptyBase_e])

theorem impl_emptyBase_l : LoopsOk G32 ⟨0, 29, impl_emptyBase_loops⟩ (Try.f100.body.getD .skip) :=
  loopsOk_of (ids := []) (by kernel_rfl) (by kernel_rfl) trivial

theorem impl_emptyBase_c : Contract Try.prog 100 impl_emptyBase_g := by
  refine told G32_ok follows Try.func100 (c := Try.f100.body.getD .skip) (by kernel_rfl) ?_
  intro args s k r hk
  unfold impl_emptyBase_g at hk
  rcases onPats_inv hk with ⟨p, q, rfl, rfl⟩ | hk
  · exact ⟨impl_emptyBase_loops, impl_emptyBase_q p.1.1 p.1.2.1 p.1.2.2.1 p.1.2.2.2.1 p.1.2.2.2.2.1, impl_emptyBase_y p.1.1 p.1.2.1 p.1.2.2.1 p.1.2.2.2.1 p.1.2.2.2.2.1, impl_emptyBase_l⟩
  cases hk

def G33 : Glob := G32.add 100 impl_emptyBase_g

theorem G33_ok : GlobOk Try.prog G33 := G32_ok.add ⟨Try.f100, Try.func100, by kernel_rfl, by kernel_rfl⟩ impl_emptyBase_c

/-! ### loop.example/g00327/impl.within -/

def impl_within_loops : Nat → Option LoopSpec
  | _ => none

theorem impl_within_x (a0 : Int) (a1 : Int) (a2 : Int) : execFn G33 impl_within_loops Try.f145 [.int .i64 a0, .int .i64 a1, .int .i64 a2] [] = impl_within_d a0 a1 a2 (fun (y : Bool) => some ⟨.ret, [.bool y], []⟩) := by kernel_rfl

theorem impl_within_y (a0 : Int) (a1 : Int) (a2 : Int) : execFn G33 impl_within_loops Try.f145 [.int .i64 a0, .int .i64 a1, .int .i64 a2] [] = impl_within_k a0 a1 a2 (fun (y : Bool) => some ⟨.ret, [.bool y], []⟩) := (impl_within_x a0 a1 a2).trans (by rw [impl_within_e])

theorem impl_within_l : LoopsOk G33 ⟨0, 15, impl_within_loops⟩ (Try.f145.body.getD .skip) :=
  loopsOk_of (ids := []) (by kernel_rfl) (by kernel_rfl) trivial

theorem impl_within_c : Contract Try.prog 145 impl_within_g := by
  refine told G33_ok follows Try.func145 (c := Try.f145.body.getD .skip) (by kernel_rfl) ?_
  intro args s k r hk
  unfold impl_within_g at hk
  rcases onPats_inv hk with ⟨p, q, rfl, rfl⟩ | hk
  · exact ⟨impl_within_loops, impl_within_q p.1 p.2.1 p.2.2.1, impl_within_y p.1 p.2.1 p.2.2.1, impl_within_l⟩
  cases hk

def G34 : Glob := G33.add 145 impl_within_g

theorem G34_ok : GlobOk Try.prog G34 := G33_ok.add ⟨Try.f145, Try.func145, by kernel_rfl, by kernel_rfl⟩ impl_within_c

/-! ### loop.example/g00327/impl.KeyOk -/

def impl_KeyOk_loops : Nat → Option LoopSpec
  | 0 => some ⟨[0, 2, 3], [], fun vals st k => onPats [.str, .bool, .int .i64] [] vals st (fun p q => loopK impl_KeyOk_b0 Fuel (p.1, p.2.1, p.2.2.1) (Sum.elim (fun z => k .ret [.str z.1, .bool z.2.1, .int .i64 z.2.2] []) (fun z => k (.exit 0) [.str z.1, .bool z.2.1, .int .i64 z.2.2] [])))
      (none)⟩
  | _ => none

def impl_KeyOk_v0 : (ByteArray × Bool × Int) → List AV := (fun x => [.str x.1, .bool x.2.1, .int .i64 x.2.2])
def impl_KeyOk_s0 : (ByteArray × Bool × Int) → St := (fun x => [])
def impl_KeyOk_e0 : ((ByteArray × Bool × Int) ⊕ (ByteArray × Bool × Int)) → Out × List AV × St := (Sum.elim (fun z => (.ret, [.str z.1, .bool z.2.1, .int .i64 z.2.2], [])) (fun z => ((.exit 0), [.str z.1, .bool z.2.1, .int .i64 z.2.2], [])))

theorem impl_KeyOk_bx0 (x : (ByteArray × Bool × Int)) : exec G34 ⟨0, 23, impl_KeyOk_loops⟩ (loopBody Try.f103 0) (bodyK ⟨0, 23, impl_KeyOk_loops⟩ [0, 2, 3] []) (setEs (deads 23) [0, 2, 3] (impl_KeyOk_v0 x)) (impl_KeyOk_s0 x) = impl_KeyOk_b0 x (Sum.elim (fun y => some ⟨.norm, impl_KeyOk_v0 y, impl_KeyOk_s0 y⟩) fun z => some ⟨(impl_KeyOk_e0 z).1, (impl_KeyOk_e0 z).2.1, (impl_KeyOk_e0 z).2.2⟩) := by
  kernel_rfl

theorem impl_KeyOk_lo0 : ∀ sp, (impl_KeyOk_loops 0) = some sp → LoopOk G34 ⟨0, 23, impl_KeyOk_loops⟩ sp (loopBody Try.f103 0) := by
  intro sp hsp vals st k r h
  cases hsp
  dsimp only at h
  rcases onPats_inv2 h with ⟨p, q, rfl, rfl, h⟩ | h
  · exact loop_runs2 impl_KeyOk_bp0 impl_KeyOk_v0 impl_KeyOk_s0 impl_KeyOk_e0 (fun z => by rcases z with z | z <;> (intro h; cases h)) impl_KeyOk_bx0 Fuel (p.1, p.2.1, p.2.2.1) _ k r (fun z => by rcases z with z | z <;> rfl) h
  cases h

theorem impl_KeyOk_x (a0 : ByteArray) : execFn G34 impl_KeyOk_loops Try.f103 [.str a0] [] = impl_KeyOk_d a0 (fun (y : Bool) => some ⟨.ret, [.bool y], []⟩) := by kernel_rfl

theorem impl_KeyOk_y (a0 : ByteArray) : execFn G34 impl_KeyOk_loops Try.f103 [.str a0] [] = impl_KeyOk_k a0 (fun (y : Bool) => some ⟨.ret, [.bool y], []⟩) := (impl_KeyOk_x a0).trans (by rw [impl_KeyOk_e])

theorem impl_KeyOk_l : LoopsOk G34 ⟨0, 23, impl_KeyOk_loops⟩ (Try.f103.body.getD .skip) :=
  loopsOk_of (ids := [0]) (by kernel_rfl) (by kernel_rfl) ⟨impl_KeyOk_lo0, trivial⟩

theorem impl_KeyOk_c : Contract Try.prog 103 impl_KeyOk_g := by
  refine told G34_ok follows Try.func103 (c := Try.f103.body.getD .skip) (by kernel_rfl) ?_
  intro args s k r hk
  unfold impl_KeyOk_g at hk
  rcases onPats_inv hk with ⟨p, q, rfl, rfl⟩ | hk
  · exact ⟨impl_KeyOk_loops, impl_KeyOk_q p.1, impl_KeyOk_y p.1, impl_KeyOk_l⟩
  cases hk

def G35 : Glob := G34.add 103 impl_KeyOk_g

theorem G35_ok : GlobOk Try.prog G35 := G34_ok.add ⟨Try.f103, Try.func103, by kernel_rfl, by kernel_rfl⟩ impl_KeyOk_c

/-! ### loop.example/g00327/impl.RangeOk -/

def impl_RangeOk_loops : Nat → Option LoopSpec
  | _ => none

theorem impl_RangeOk_x (a0 : ByteArray) (a1 : ByteArray) : execFn G35 impl_RangeOk_loops Try.f170 [.agg [.str a0, .str a1]] [] = impl_RangeOk_d (a0, a1) (fun (y : Bool) => some ⟨.ret, [.bool y], []⟩) := by kernel_rfl

theorem impl_RangeOk_y (a0 : ByteArray) (a1 : ByteArray) : execFn G35 impl_RangeOk_loops Try.f170 [.agg [.str a0, .str a1]] [] = impl_RangeOk_k (a0, a1) (fun (y : Bool) => some ⟨.ret, [.bool y], []⟩) := (impl_RangeOk_x a0 a1).trans (by rw [impl_RangeOk_e])

theorem impl_RangeOk_l : LoopsOk G35 ⟨0, 18, impl_RangeOk_loops⟩ (Try.f170.body.getD .skip) :=
  loopsOk_of (ids := []) (by kernel_rfl) (by kernel_rfl) trivial

theorem impl_RangeOk_c : Contract Try.prog 170 impl_RangeOk_g := by
  refine told G35_ok follows Try.func170 (c := Try.f170.body.getD .skip) (by kernel_rfl) ?_
  intro args s k r hk
  unfold impl_RangeOk_g at hk
  rcases onPats_inv hk with ⟨p, q, rfl, rfl⟩ | hk
  · exact ⟨impl_RangeOk_loops, impl_RangeOk_q p.1.1 p.1.2.1, impl_RangeOk_y p.1.1 p.1.2.1, impl_RangeOk_l⟩
  cases hk

def G36 : Glob := G35.add 170 impl_RangeOk_g

theorem G36_ok : GlobOk Try.prog G36 := G35_ok.add ⟨Try.f170, Try.func170, by kernel_rfl, by kernel_rfl⟩ impl_RangeOk_c

/-! ### loop.example/g00327/impl.WriteOk -/

def impl_WriteOk_loops : Nat → Option LoopSpec
  | _ => none

theorem impl_WriteOk_x (a0 : ByteArray) (a1 : ByteArray) (a2 : Bool) : execFn G36 impl_WriteOk_loops Try.f233 [.agg [.str a0, .str a1, .bool a2]] [] = impl_WriteOk_d (a0, (a1, a2)) (fun (y : Bool) => some ⟨.ret, [.bool y], []⟩) := by kernel_rfl

theorem impl_WriteOk_y (a0 : ByteArray) (a1 : ByteArray) (a2 : Bool) : execFn G36 impl_WriteOk_loops Try.f233 [.agg [.str a0, .str a1, .bool a2]] [] = impl_WriteOk_k (a0, (a1, a2)) (fun (y : Bool) => some ⟨.ret, [.bool y], []⟩) := (impl_WriteOk_x a0 a1 a2).trans (by rw [impl_WriteOk_e])

theorem impl_WriteOk_l : LoopsOk G36 ⟨0, 22, impl_WriteOk_loops⟩ (Try.f233.body.getD .skip) :=
  loopsOk_of (ids := []) (by kernel_rfl) (by kernel_rfl) trivial

theorem impl_WriteOk_c : Contract Try.prog 233 impl_WriteOk_g := by
  refine told G36_ok follows Try.func233 (c := Try.f233.body.getD .skip) (by kernel_rfl) ?_
  intro args s k r hk
  unfold impl_WriteOk_g at hk
  rcases onPats_inv hk with ⟨p, q, rfl, rfl⟩ | hk
  · exact ⟨impl_WriteOk_loops, impl_WriteOk_q p.1.1 p.1.2.1 p.1.2.2.1, impl_WriteOk_y p.1.1 p.1.2.1 p.1.2.2.1, impl_WriteOk_l⟩
  cases hk

def G37 : Glob := G36.add 233 impl_WriteOk_g

theorem G37_ok : GlobOk Try.prog G37 := G36_ok.add ⟨Try.f233, Try.func233, by kernel_rfl, by kernel_rfl⟩ impl_WriteOk_c

/-! ### loop.example/g00327/impl.WritesOk -/

def impl_WritesOk_loops : Nat → Option LoopSpec
  | 0 => some ⟨[0, 2, 5, 6, 7], [], fun vals st k => onPats [.lst tWrite, .bool, .lst tWrite, .int .i64, .int .i64] [] vals st (fun p q => loopK impl_WritesOk_b0 Fuel (p.1, p.2.1, p.2.2.1, p.2.2.2.1, p.2.2.2.2.1) (Sum.elim (fun z => k .ret [.lst tWrite z.1, .bool z.2.1, .lst tWrite z.2.2.1, .int .i64 z.2.2.2.1, .int .i64 z.2.2.2.2] []) (fun z => k (.exit 0) [.lst tWrite z.1, .bool z.2.1, .lst tWrite z.2.2.1, .int .i64 z.2.2.2.1, .int .i64 z.2.2.2.2] [])))
      (none)⟩
  | 2000004 => some ⟨[0, 3, 4, 6, 8, 10, 12, 14, 16, 18, 20, 22, 24, 26, 28, 30, 32, 34], [], fun _ _ _ => none⟩
  | _ => none

def impl_WritesOk_v0 : ((List dWrite) × Bool × (List dWrite) × Int × Int) → List AV := (fun x => [.lst tWrite x.1, .bool x.2.1, .lst tWrite x.2.2.1, .int .i64 x.2.2.2.1, .int .i64 x.2.2.2.2])
def impl_WritesOk_s0 : ((List dWrite) × Bool × (List dWrite) × Int × Int) → St := (fun x => [])
def impl_WritesOk_e0 : (((List dWrite) × Bool × (List dWrite) × Int × Int) ⊕ ((List dWrite) × Bool × (List dWrite) × Int × Int)) → Out × List AV × St := (Sum.elim (fun z => (.ret, [.lst tWrite z.1, .bool z.2.1, .lst tWrite z.2.2.1, .int .i64 z.2.2.2.1, .int .i64 z.2.2.2.2], [])) (fun z => ((.exit 0), [.lst tWrite z.1, .bool z.2.1, .lst tWrite z.2.2.1, .int .i64 z.2.2.2.1, .int .i64 z.2.2.2.2], [])))

theorem impl_WritesOk_bx0 (x : ((List dWrite) × Bool × (List dWrite) × Int × Int)) : exec G37 ⟨0, 34, impl_WritesOk_loops⟩ (loopBody Try.f171 0) (bodyK ⟨0, 34, impl_WritesOk_loops⟩ [0, 2, 5, 6, 7] []) (setEs (deads 34) [0, 2, 5, 6, 7] (impl_WritesOk_v0 x)) (impl_WritesOk_s0 x) = impl_WritesOk_b0 x (Sum.elim (fun y => some ⟨.norm, impl_WritesOk_v0 y, impl_WritesOk_s0 y⟩) fun z => some ⟨(impl_WritesOk_e0 z).1, (impl_WritesOk_e0 z).2.1, (impl_WritesOk_e0 z).2.2⟩) := by
  kernel_rfl

theorem impl_WritesOk_lo0 : ∀ sp, (impl_WritesOk_loops 0) = some sp → LoopOk G37 ⟨0, 34, impl_WritesOk_loops⟩ sp (loopBody Try.f171 0) := by
  intro sp hsp vals st k r h
  cases hsp
  dsimp only at h
  rcases onPats_inv2 h with ⟨p, q, rfl, rfl, h⟩ | h
  · exact loop_runs2 impl_WritesOk_bp0 impl_WritesOk_v0 impl_WritesOk_s0 impl_WritesOk_e0 (fun z => by rcases z with z | z <;> (intro h; cases h)) impl_WritesOk_bx0 Fuel (p.1, p.2.1, p.2.2.1, p.2.2.2.1, p.2.2.2.2.1) _ k r (fun z => by rcases z with z | z <;> rfl) h
  cases h

theorem impl_WritesOk_x (a0 : (List dWrite)) : execFn G37 impl_WritesOk_loops Try.f171 [.lst tWrite a0] [] = impl_WritesOk_d a0 (fun (y : Bool) => some ⟨.ret, [.bool y], []⟩) := by kernel_rfl

theorem impl_WritesOk_y (a0 : (List dWrite)) : execFn G37 impl_WritesOk_loops Try.f171 [.lst tWrite a0] [] = impl_WritesOk_k a0 (fun (y : Bool) => some ⟨.ret, [.bool y], []⟩) := (impl_WritesOk_x a0).trans (by rw [impl_WritesOk_e])

theorem impl_WritesOk_l : LoopsOk G37 ⟨0, 34, impl_WritesOk_loops⟩ (Try.f171.body.getD .skip) :=
  loopsOk_of (ids := [0]) (by kernel_rfl) (by kernel_rfl) ⟨impl_WritesOk_lo0, trivial⟩

theorem impl_WritesOk_c : Contract Try.prog 171 impl_WritesOk_g := by
  refine told G37_ok follows Try.func171 (c := Try.f171.body.getD .skip) (by kernel_rfl) ?_
  intro args s k r hk
  unfold impl_WritesOk_g at hk
  rcases onPats_inv hk with ⟨p, q, rfl, rfl⟩ | hk
  · exact ⟨impl_WritesOk_loops, impl_WritesOk_q p.1, impl_WritesOk_y p.1, impl_WritesOk_l⟩
  cases hk

def G38 : Glob := G37.add 171 impl_WritesOk_g

theorem G38_ok : GlobOk Try.prog G38 := G37_ok.add ⟨Try.f171, Try.func171, by kernel_rfl, by kernel_rfl⟩ impl_WritesOk_c

/-! ### loop.example/g00327/impl.TxnOk -/

def impl_TxnOk_loops : Nat → Option LoopSpec
  | 5000011 => some ⟨[1, 2], [], fun vals st k => onPats [.bp 0 0, .bool] [.box [.int .i64, .int .i64, .int .i64, .int .i64, .lst tRange, .lst tWrite, .bool, .str]] vals st (fun p q => impl_TxnOk_j5000011 (p.2.1, q.1.1, q.1.2.1, q.1.2.2.1, q.1.2.2.2.1, q.1.2.2.2.2.1, q.1.2.2.2.2.2.1, q.1.2.2.2.2.2.2.1, q.1.2.2.2.2.2.2.2.1) (fun z => k .ret [.bp 0 0, .bool z.1] [.box [.int .i64 z.2.1, .int .i64 z.2.2.1, .int .i64 z.2.2.2.1, .int .i64 z.2.2.2.2.1, .lst tRange z.2.2.2.2.2.1, .lst tWrite z.2.2.2.2.2.2.1, .bool z.2.2.2.2.2.2.2.1, .str z.2.2.2.2.2.2.2.2]]))
      (none)⟩
  | 5000009 => some ⟨[1, 2], [], fun vals st k => onPats [.bp 0 0, .bool] [.box [.int .i64, .int .i64, .int .i64, .int .i64, .lst tRange, .lst tWrite, .bool, .str]] vals st (fun p q => impl_TxnOk_j5000009 (p.2.1, q.1.1, q.1.2.1, q.1.2.2.1, q.1.2.2.2.1, q.1.2.2.2.2.1, q.1.2.2.2.2.2.1, q.1.2.2.2.2.2.2.1, q.1.2.2.2.2.2.2.2.1) (fun z => k .ret [.bp 0 0, .bool z.1] [.box [.int .i64 z.2.1, .int .i64 z.2.2.1, .int .i64 z.2.2.2.1, .int .i64 z.2.2.2.2.1, .lst tRange z.2.2.2.2.2.1, .lst tWrite z.2.2.2.2.2.2.1, .bool z.2.2.2.2.2.2.2.1, .str z.2.2.2.2.2.2.2.2]]))
      (none)⟩
  | 0 => some ⟨[1, 2, 6, 7, 8], [], fun vals st k => onPats [.bp 0 0, .bool, .lst tRange, .int .i64, .int .i64] [.box [.int .i64, .int .i64, .int .i64, .int .i64, .lst tRange, .lst tWrite, .bool, .str]] vals st (fun p q => loopK impl_TxnOk_b0 Fuel (p.2.1, p.2.2.1, p.2.2.2.1, p.2.2.2.2.1, q.1.1, q.1.2.1, q.1.2.2.1, q.1.2.2.2.1, q.1.2.2.2.2.1, q.1.2.2.2.2.2.1, q.1.2.2.2.2.2.2.1, q.1.2.2.2.2.2.2.2.1) (Sum.elim (fun z => k .ret [.bp 0 0, .bool z.1, .lst tRange z.2.1, .int .i64 z.2.2.1, .int .i64 z.2.2.2.1] [.box [.int .i64 z.2.2.2.2.1, .int .i64 z.2.2.2.2.2.1, .int .i64 z.2.2.2.2.2.2.1, .int .i64 z.2.2.2.2.2.2.2.1, .lst tRange z.2.2.2.2.2.2.2.2.1, .lst tWrite z.2.2.2.2.2.2.2.2.2.1, .bool z.2.2.2.2.2.2.2.2.2.2.1, .str z.2.2.2.2.2.2.2.2.2.2.2]]) (fun z => k (.exit 0) [.bp 0 0, .bool z.1, .lst tRange z.2.1, .int .i64 z.2.2.1, .int .i64 z.2.2.2.1] [.box [.int .i64 z.2.2.2.2.1, .int .i64 z.2.2.2.2.2.1, .int .i64 z.2.2.2.2.2.2.1, .int .i64 z.2.2.2.2.2.2.2.1, .lst tRange z.2.2.2.2.2.2.2.2.1, .lst tWrite z.2.2.2.2.2.2.2.2.2.1, .bool z.2.2.2.2.2.2.2.2.2.2.1, .str z.2.2.2.2.2.2.2.2.2.2.2]])))
      (none)⟩
  | _ => none

def impl_TxnOk_jv5000011 : (Bool × Int × Int × Int × Int × (List dRange) × (List dWrite) × Bool × ByteArray) → List AV := (fun x => [.bp 0 0, .bool x.1])
def impl_TxnOk_js5000011 : (Bool × Int × Int × Int × Int × (List dRange) × (List dWrite) × Bool × ByteArray) → St := (fun x => [.box [.int .i64 x.2.1, .int .i64 x.2.2.1, .int .i64 x.2.2.2.1, .int .i64 x.2.2.2.2.1, .lst tRange x.2.2.2.2.2.1, .lst tWrite x.2.2.2.2.2.2.1, .bool x.2.2.2.2.2.2.2.1, .str x.2.2.2.2.2.2.2.2]])
def impl_TxnOk_je5000011 : (Bool × Int × Int × Int × Int × (List dRange) × (List dWrite) × Bool × ByteArray) → Out × List AV × St := (fun z => (.ret, [.bp 0 0, .bool z.1], [.box [.int .i64 z.2.1, .int .i64 z.2.2.1, .int .i64 z.2.2.2.1, .int .i64 z.2.2.2.2.1, .lst tRange z.2.2.2.2.2.1, .lst tWrite z.2.2.2.2.2.2.1, .bool z.2.2.2.2.2.2.2.1, .str z.2.2.2.2.2.2.2.2]]))

theorem impl_TxnOk_jx5000011 (x : (Bool × Int × Int × Int × Int × (List dRange) × (List dWrite) × Bool × ByteArray)) : exec G38 ⟨0, 93, impl_TxnOk_loops⟩ (loopBody Try.f82 5000011) (bodyK ⟨0, 93, impl_TxnOk_loops⟩ [1, 2] []) (setEs (deads 93) [1, 2] (impl_TxnOk_jv5000011 x)) (impl_TxnOk_js5000011 x) = impl_TxnOk_j5000011 x (fun z => some ⟨(impl_TxnOk_je5000011 z).1, (impl_TxnOk_je5000011 z).2.1, (impl_TxnOk_je5000011 z).2.2⟩) := by
  kernel_rfl

theorem impl_TxnOk_lo5000011 : ∀ sp, (impl_TxnOk_loops 5000011) = some sp → CutOk G38 ⟨0, 93, impl_TxnOk_loops⟩ sp (loopBody Try.f82 5000011) := by
  intro sp hsp vals st k r h
  cases hsp
  dsimp only at h
  rcases onPats_inv2 h with ⟨p, q, rfl, rfl, h⟩ | h
  · exact cut_runs impl_TxnOk_jp5000011 impl_TxnOk_jv5000011 impl_TxnOk_js5000011 impl_TxnOk_je5000011 impl_TxnOk_jx5000011 (p.2.1, q.1.1, q.1.2.1, q.1.2.2.1, q.1.2.2.2.1, q.1.2.2.2.2.1, q.1.2.2.2.2.2.1, q.1.2.2.2.2.2.2.1, q.1.2.2.2.2.2.2.2.1) _ k r (fun z => rfl) h
  cases h

def impl_TxnOk_jv5000009 : (Bool × Int × Int × Int × Int × (List dRange) × (List dWrite) × Bool × ByteArray) → List AV := (fun x => [.bp 0 0, .bool x.1])
def impl_TxnOk_js5000009 : (Bool × Int × Int × Int × Int × (List dRange) × (List dWrite) × Bool × ByteArray) → St := (fun x => [.box [.int .i64 x.2.1, .int .i64 x.2.2.1, .int .i64 x.2.2.2.1, .int .i64 x.2.2.2.2.1, .lst tRange x.2.2.2.2.2.1, .lst tWrite x.2.2.2.2.2.2.1, .bool x.2.2.2.2.2.2.2.1, .str x.2.2.2.2.2.2.2.2]])
def impl_TxnOk_je5000009 : (Bool × Int × Int × Int × Int × (List dRange) × (List dWrite) × Bool × ByteArray) → Out × List AV × St := (fun z => (.ret, [.bp 0 0, .bool z.1], [.box [.int .i64 z.2.1, .int .i64 z.2.2.1, .int .i64 z.2.2.2.1, .int .i64 z.2.2.2.2.1, .lst tRange z.2.2.2.2.2.1, .lst tWrite z.2.2.2.2.2.2.1, .bool z.2.2.2.2.2.2.2.1, .str z.2.2.2.2.2.2.2.2]]))

theorem impl_TxnOk_jx5000009 (x : (Bool × Int × Int × Int × Int × (List dRange) × (List dWrite) × Bool × ByteArray)) : exec G38 ⟨0, 93, impl_TxnOk_loops⟩ (loopBody Try.f82 5000009) (bodyK ⟨0, 93, impl_TxnOk_loops⟩ [1, 2] []) (setEs (deads 93) [1, 2] (impl_TxnOk_jv5000009 x)) (impl_TxnOk_js5000009 x) = impl_TxnOk_j5000009 x (fun z => some ⟨(impl_TxnOk_je5000009 z).1, (impl_TxnOk_je5000009 z).2.1, (impl_TxnOk_je5000009 z).2.2⟩) := by
  kernel_rfl

theorem impl_TxnOk_lo5000009 : ∀ sp, (impl_TxnOk_loops 5000009) = some sp → CutOk G38 ⟨0, 93, impl_TxnOk_loops⟩ sp (loopBody Try.f82 5000009) := by
  intro sp hsp vals st k r h
  cases hsp
  dsimp only at h
  rcases onPats_inv2 h with ⟨p, q, rfl, rfl, h⟩ | h
  · exact cut_runs impl_TxnOk_jp5000009 impl_TxnOk_jv5000009 impl_TxnOk_js5000009 impl_TxnOk_je5000009 impl_TxnOk_jx5000009 (p.2.1, q.1.1, q.1.2.1, q.1.2.2.1, q.1.2.2.2.1, q.1.2.2.2.2.1, q.1.2.2.2.2.2.1, q.1.2.2.2.2.2.2.1, q.1.2.2.2.2.2.2.2.1) _ k r (fun z => rfl) h
  cases h

def impl_TxnOk_v0 : (Bool × (List dRange) × Int × Int × Int × Int × Int × Int × (List dRange) × (List dWrite) × Bool × ByteArray) → List AV := (fun x => [.bp 0 0, .bool x.1, .lst tRange x.2.1, .int .i64 x.2.2.1, .int .i64 x.2.2.2.1])
def impl_TxnOk_s0 : (Bool × (List dRange) × Int × Int × Int × Int × Int × Int × (List dRange) × (List dWrite) × Bool × ByteArray) → St := (fun x => [.box [.int .i64 x.2.2.2.2.1, .int .i64 x.2.2.2.2.2.1, .int .i64 x.2.2.2.2.2.2.1, .int .i64 x.2.2.2.2.2.2.2.1, .lst tRange x.2.2.2.2.2.2.2.2.1, .lst tWrite x.2.2.2.2.2.2.2.2.2.1, .bool x.2.2.2.2.2.2.2.2.2.2.1, .str x.2.2.2.2.2.2.2.2.2.2.2]])
def impl_TxnOk_e0 : ((Bool × (List dRange) × Int × Int × Int × Int × Int × Int × (List dRange) × (List dWrite) × Bool × ByteArray) ⊕ (Bool × (List dRange) × Int × Int × Int × Int × Int × Int × (List dRange) × (List dWrite) × Bool × ByteArray)) → Out × List AV × St := (Sum.elim (fun z => (.ret, [.bp 0 0, .bool z.1, .lst tRange z.2.1, .int .i64 z.2.2.1, .int .i64 z.2.2.2.1], [.box [.int .i64 z.2.2.2.2.1, .int .i64 z.2.2.2.2.2.1, .int .i64 z.2.2.2.2.2.2.1, .int .i64 z.2.2.2.2.2.2.2.1, .lst tRange z.2.2.2.2.2.2.2.2.1, .lst tWrite z.2.2.2.2.2.2.2.2.2.1, .bool z.2.2.2.2.2.2.2.2.2.2.1, .str z.2.2.2.2.2.2.2.2.2.2.2]])) (fun z => ((.exit 0), [.bp 0 0, .bool z.1, .lst tRange z.2.1, .int .i64 z.2.2.1, .int .i64 z.2.2.2.1], [.box [.int .i64 z.2.2.2.2.1, .int .i64 z.2.2.2.2.2.1, .int .i64 z.2.2.2.2.2.2.1, .int .i64 z.2.2.2.2.2.2.2.1, .lst tRange z.2.2.2.2.2.2.2.2.1, .lst tWrite z.2.2.2.2.2.2.2.2.2.1, .bool z.2.2.2.2.2.2.2.2.2.2.1, .str z.2.2.2.2.2.2.2.2.2.2.2]])))

theorem impl_TxnOk_bx0 (x : (Bool × (List dRange) × Int × Int × Int × Int × Int × Int × (List dRange) × (List dWrite) × Bool × ByteArray)) : exec G38 ⟨0, 93, impl_TxnOk_loops⟩ (loopBody Try.f82 0) (bodyK ⟨0, 93, impl_TxnOk_loops⟩ [1, 2, 6, 7, 8] []) (setEs (deads 93) [1, 2, 6, 7, 8] (impl_TxnOk_v0 x)) (impl_TxnOk_s0 x) = impl_TxnOk_b0 x (Sum.elim (fun y => some ⟨.norm, impl_TxnOk_v0 y, impl_TxnOk_s0 y⟩) fun z => some ⟨(impl_TxnOk_e0 z).1, (impl_TxnOk_e0 z).2.1, (impl_TxnOk_e0 z).2.2⟩) := by
  kernel_rfl

theorem impl_TxnOk_lo0 : ∀ sp, (impl_TxnOk_loops 0) = some sp → LoopOk G38 ⟨0, 93, impl_TxnOk_loops⟩ sp (loopBody Try.f82 0) := by
  intro sp hsp vals st k r h
  cases hsp
  dsimp only at h
  rcases onPats_inv2 h with ⟨p, q, rfl, rfl, h⟩ | h
  · exact loop_runs2 impl_TxnOk_bp0 impl_TxnOk_v0 impl_TxnOk_s0 impl_TxnOk_e0 (fun z => by rcases z with z | z <;> (intro h; cases h)) impl_TxnOk_bx0 Fuel (p.2.1, p.2.2.1, p.2.2.2.1, p.2.2.2.2.1, q.1.1, q.1.2.1, q.1.2.2.1, q.1.2.2.2.1, q.1.2.2.2.2.1, q.1.2.2.2.2.2.1, q.1.2.2.2.2.2.2.1, q.1.2.2.2.2.2.2.2.1) _ k r (fun z => by rcases z with z | z <;> rfl) h
  cases h

theorem impl_TxnOk_x (a0 : Int) (a1 : Int) (a2 : Int) (a3 : Int) (a4 : (List dRange)) (a5 : (List dWrite)) (a6 : Bool) (a7 : ByteArray) : execFn G38 impl_TxnOk_loops Try.f82 [.agg [.int .i64 a0, .int .i64 a1, .int .i64 a2, .int .i64 a3, .lst tRange a4, .lst tWrite a5, .bool a6, .str a7]] [] = impl_TxnOk_d (a0, (a1, (a2, (a3, (a4, (a5, (a6, a7))))))) (fun (y : Bool) => some ⟨.ret, [.bool y], []⟩) := by kernel_rfl

theorem impl_TxnOk_y (a0 : Int) (a1 : Int) (a2 : Int) (a3 : Int) (a4 : (List dRange)) (a5 : (List dWrite)) (a6 : Bool) (a7 : ByteArray) : execFn G38 impl_TxnOk_loops Try.f82 [.agg [.int .i64 a0, .int .i64 a1, .int .i64 a2, .int .i64 a3, .lst tRange a4, .lst tWrite a5, .bool a6, .str a7]] [] = impl_TxnOk_k (a0, (a1, (a2, (a3, (a4, (a5, (a6, a7))))))) (fun (y : Bool) => some ⟨.ret, [.bool y], []⟩) := (impl_TxnOk_x a0 a1 a2 a3 a4 a5 a6 a7).trans (by rw [impl_TxnOk_e])

theorem impl_TxnOk_l : LoopsOk G38 ⟨0, 93, impl_TxnOk_loops⟩ (Try.f82.body.getD .skip) :=
  loopsOk_of (ids := [5000011, 5000009, 0]) (by kernel_rfl) (by kernel_rfl) ⟨impl_TxnOk_lo5000011, ⟨impl_TxnOk_lo5000009, ⟨impl_TxnOk_lo0, trivial⟩⟩⟩

theorem impl_TxnOk_c : Contract Try.prog 82 impl_TxnOk_g := by
  refine told G38_ok follows Try.func82 (c := Try.f82.body.getD .skip) (by kernel_rfl) ?_
  intro args s k r hk
  unfold impl_TxnOk_g at hk
  rcases onPats_inv hk with ⟨p, q, rfl, rfl⟩ | hk
  · exact ⟨impl_TxnOk_loops, impl_TxnOk_q p.1.1 p.1.2.1 p.1.2.2.1 p.1.2.2.2.1 p.1.2.2.2.2.1 p.1.2.2.2.2.2.1 p.1.2.2.2.2.2.2.1 p.1.2.2.2.2.2.2.2.1, impl_TxnOk_y p.1.1 p.1.2.1 p.1.2.2.1 p.1.2.2.2.1 p.1.2.2.2.2.1 p.1.2.2.2.2.2.1 p.1.2.2.2.2.2.2.1 p.1.2.2.2.2.2.2.2.1, impl_TxnOk_l⟩
  cases hk

def G39 : Glob := G38.add 82 impl_TxnOk_g

theorem G39_ok : GlobOk Try.prog G39 := G38_ok.add ⟨Try.f82, Try.func82, by kernel_rfl, by kernel_rfl⟩ impl_TxnOk_c

/-! ### loop.example/g00327/impl.isDone -/

def impl_isDone_loops : Nat → Option LoopSpec
  | _ => none

theorem impl_isDone_x (a0 : Int) (a1 : Int) (a2 : Int) (a3 : Int) (a4 : (List dRange)) (a5 : (List dWrite)) (a6 : Bool) (a7 : ByteArray) : execFn G39 impl_isDone_loops Try.f101 [.agg [.int .i64 a0, .int .i64 a1, .int .i64 a2, .int .i64 a3, .lst tRange a4, .lst tWrite a5, .bool a6, .str a7]] [] = impl_isDone_d (a0, (a1, (a2, (a3, (a4, (a5, (a6, a7))))))) (fun (y : Bool) => some ⟨.ret, [.bool y], []⟩) := by kernel_rfl

theorem impl_isDone_y (a0 : Int) (a1 : Int) (a2 : Int) (a3 : Int) (a4 : (List dRange)) (a5 : (List dWrite)) (a6 : Bool) (a7 : ByteArray) : execFn G39 impl_isDone_loops Try.f101 [.agg [.int .i64 a0, .int .i64 a1, .int .i64 a2, .int .i64 a3, .lst tRange a4, .lst tWrite a5, .bool a6, .str a7]] [] = impl_isDone_k (a0, (a1, (a2, (a3, (a4, (a5, (a6, a7))))))) (fun (y : Bool) => some ⟨.ret, [.bool y], []⟩) := (impl_isDone_x a0 a1 a2 a3 a4 a5 a6 a7).trans (by rw [impl_isDone_e])

theorem impl_isDone_l : LoopsOk G39 ⟨0, 6, impl_isDone_loops⟩ (Try.f101.body.getD .skip) :=
  loopsOk_of (ids := []) (by kernel_rfl) (by kernel_rfl) trivial

theorem impl_isDone_c : Contract Try.prog 101 impl_isDone_g := by
  refine told G39_ok follows Try.func101 (c := Try.f101.body.getD .skip) (by kernel_rfl) ?_
  intro args s k r hk
  unfold impl_isDone_g at hk
  rcases onPats_inv hk with ⟨p, q, rfl, rfl⟩ | hk
  · exact ⟨impl_isDone_loops, impl_isDone_q p.1.1 p.1.2.1 p.1.2.2.1 p.1.2.2.2.1 p.1.2.2.2.2.1 p.1.2.2.2.2.2.1 p.1.2.2.2.2.2.2.1 p.1.2.2.2.2.2.2.2.1, impl_isDone_y p.1.1 p.1.2.1 p.1.2.2.1 p.1.2.2.2.1 p.1.2.2.2.2.1 p.1.2.2.2.2.2.1 p.1.2.2.2.2.2.2.1 p.1.2.2.2.2.2.2.2.1, impl_isDone_l⟩
  cases hk

def G40 : Glob := G39.add 101 impl_isDone_g

theorem G40_ok : GlobOk Try.prog G40 := G39_ok.add ⟨Try.f101, Try.func101, by kernel_rfl, by kernel_rfl⟩ impl_isDone_c

/-! ### loop.example/g00327/impl.isReady -/

def impl_isReady_loops : Nat → Option LoopSpec
  | _ => none

theorem impl_isReady_x (a0 : Int) (a1 : Int) (a2 : Int) (a3 : Int) (a4 : (List dRange)) (a5 : (List dWrite)) (a6 : Bool) (a7 : ByteArray) : execFn G40 impl_isReady_loops Try.f102 [.agg [.int .i64 a0, .int .i64 a1, .int .i64 a2, .int .i64 a3, .lst tRange a4, .lst tWrite a5, .bool a6, .str a7]] [] = impl_isReady_d (a0, (a1, (a2, (a3, (a4, (a5, (a6, a7))))))) (fun (y : Bool) => some ⟨.ret, [.bool y], []⟩) := by kernel_rfl

theorem impl_isReady_y (a0 : Int) (a1 : Int) (a2 : Int) (a3 : Int) (a4 : (List dRange)) (a5 : (List dWrite)) (a6 : Bool) (a7 : ByteArray) : execFn G40 impl_isReady_loops Try.f102 [.agg [.int .i64 a0, .int .i64 a1, .int .i64 a2, .int .i64 a3, .lst tRange a4, .lst tWrite a5, .bool a6, .str a7]] [] = impl_isReady_k (a0, (a1, (a2, (a3, (a4, (a5, (a6, a7))))))) (fun (y : Bool) => some ⟨.ret, [.bool y], []⟩) := (impl_isReady_x a0 a1 a2 a3 a4 a5 a6 a7).trans (by rw [impl_isReady_e])

theorem impl_isReady_l : LoopsOk G40 ⟨0, 6, impl_isReady_loops⟩ (Try.f102.body.getD .skip) :=
  loopsOk_of (ids := []) (by kernel_rfl) (by kernel_rfl) trivial

theorem impl_isReady_c : Contract Try.prog 102 impl_isReady_g := by
  refine told G40_ok follows Try.func102 (c := Try.f102.body.getD .skip) (by kernel_rfl) ?_
  intro args s k r hk
  unfold impl_isReady_g at hk
  rcases onPats_inv hk with ⟨p, q, rfl, rfl⟩ | hk
  · exact ⟨impl_isReady_loops, impl_isReady_q p.1.1 p.1.2.1 p.1.2.2.1 p.1.2.2.2.1 p.1.2.2.2.2.1 p.1.2.2.2.2.2.1 p.1.2.2.2.2.2.2.1 p.1.2.2.2.2.2.2.2.1, impl_isReady_y p.1.1 p.1.2.1 p.1.2.2.1 p.1.2.2.2.1 p.1.2.2.2.2.1 p.1.2.2.2.2.2.1 p.1.2.2.2.2.2.2.1 p.1.2.2.2.2.2.2.2.1, impl_isReady_l⟩
  cases hk

def G41 : Glob := G40.add 102 impl_isReady_g

theorem G41_ok : GlobOk Try.prog G41 := G40_ok.add ⟨Try.f102, Try.func102, by kernel_rfl, by kernel_rfl⟩ impl_isReady_c

/-! ### cmp.isNaN[string] -/

def cmp_isNaN_string_loops : Nat → Option LoopSpec
  | _ => none

theorem cmp_isNaN_string_x (a0 : ByteArray) : execFn G41 cmp_isNaN_string_loops Try.f255 [.str a0] [] = cmp_isNaN_string_d a0 (fun (y : Bool) => some ⟨.ret, [.bool y], []⟩) := by kernel_rfl

theorem cmp_isNaN_string_y (a0 : ByteArray) : execFn G41 cmp_isNaN_string_loops Try.f255 [.str a0] [] = cmp_isNaN_string_k a0 (fun (y : Bool) => some ⟨.ret, [.bool y], []⟩) := (cmp_isNaN_string_x a0).trans (by rw [cmp_isNaN_string_e])

theorem cmp_isNaN_string_l : LoopsOk G41 ⟨0, 6, cmp_isNaN_string_loops⟩ (Try.f255.body.getD .skip) :=
  loopsOk_of (ids := []) (by kernel_rfl) (by kernel_rfl) trivial

theorem cmp_isNaN_string_c : Contract Try.prog 255 cmp_isNaN_string_g := by
  refine told G41_ok follows Try.func255 (c := Try.f255.body.getD .skip) (by kernel_rfl) ?_
  intro args s k r hk
  unfold cmp_isNaN_string_g at hk
  rcases onPats_inv hk with ⟨p, q, rfl, rfl⟩ | hk
  · exact ⟨cmp_isNaN_string_loops, cmp_isNaN_string_q p.1, cmp_isNaN_string_y p.1, cmp_isNaN_string_l⟩
  cases hk

def G42 : Glob := G41.add 255 cmp_isNaN_string_g

theorem G42_ok : GlobOk Try.prog G42 := G41_ok.add ⟨Try.f255, Try.func255, by kernel_rfl, by kernel_rfl⟩ cmp_isNaN_string_c

/-! ### cmp.Compare[string] -/

def cmp_Compare_string_loops : Nat → Option LoopSpec
  | _ => none

theorem cmp_Compare_string_x (a0 : ByteArray) (a1 : ByteArray) : execFn G42 cmp_Compare_string_loops Try.f206 [.str a0, .str a1] [] = cmp_Compare_string_d a0 a1 (fun (y : Int) => some ⟨.ret, [.int .i64 y], []⟩) := by kernel_rfl

theorem cmp_Compare_string_y (a0 : ByteArray) (a1 : ByteArray) : execFn G42 cmp_Compare_string_loops Try.f206 [.str a0, .str a1] [] = cmp_Compare_string_k a0 a1 (fun (y : Int) => some ⟨.ret, [.int .i64 y], []⟩) := (cmp_Compare_string_x a0 a1).trans (by rw [cmp_Compare_string_e])

theorem cmp_Compare_string_l : LoopsOk G42 ⟨0, 20, cmp_Compare_string_loops⟩ (Try.f206.body.getD .skip) :=
  loopsOk_of (ids := []) (by kernel_rfl) (by kernel_rfl) trivial

theorem cmp_Compare_string_c : Contract Try.prog 206 cmp_Compare_string_g := by
  refine told G42_ok follows Try.func206 (c := Try.f206.body.getD .skip) (by kernel_rfl) ?_
  intro args s k r hk
  unfold cmp_Compare_string_g at hk
  rcases onPats_inv hk with ⟨p, q, rfl, rfl⟩ | hk
  · exact ⟨cmp_Compare_string_loops, cmp_Compare_string_q p.1 p.2.1, cmp_Compare_string_y p.1 p.2.1, cmp_Compare_string_l⟩
  cases hk

def G43 : Glob := G42.add 206 cmp_Compare_string_g

theorem G43_ok : GlobOk Try.prog G43 := G42_ok.add ⟨Try.f206, Try.func206, by kernel_rfl, by kernel_rfl⟩ cmp_Compare_string_c

/-! ### cmp.isNaN[int] -/

def cmp_isNaN_int_loops : Nat → Option LoopSpec
  | _ => none

theorem cmp_isNaN_int_x (a0 : Int) : execFn G43 cmp_isNaN_int_loops Try.f256 [.int .i64 a0] [] = cmp_isNaN_int_d a0 (fun (y : Bool) => some ⟨.ret, [.bool y], []⟩) := by kernel_rfl

theorem cmp_isNaN_int_y (a0 : Int) : execFn G43 cmp_isNaN_int_loops Try.f256 [.int .i64 a0] [] = cmp_isNaN_int_k a0 (fun (y : Bool) => some ⟨.ret, [.bool y], []⟩) := (cmp_isNaN_int_x a0).trans (by rw [cmp_isNaN_int_e])

theorem cmp_isNaN_int_l : LoopsOk G43 ⟨0, 6, cmp_isNaN_int_loops⟩ (Try.f256.body.getD .skip) :=
  loopsOk_of (ids := []) (by kernel_rfl) (by kernel_rfl) trivial

theorem cmp_isNaN_int_c : Contract Try.prog 256 cmp_isNaN_int_g := by
  refine told G43_ok follows Try.func256 (c := Try.f256.body.getD .skip) (by kernel_rfl) ?_
  intro args s k r hk
  unfold cmp_isNaN_int_g at hk
  rcases onPats_inv hk with ⟨p, q, rfl, rfl⟩ | hk
  · exact ⟨cmp_isNaN_int_loops, cmp_isNaN_int_q p.1, cmp_isNaN_int_y p.1, cmp_isNaN_int_l⟩
  cases hk

def G44 : Glob := G43.add 256 cmp_isNaN_int_g

theorem G44_ok : GlobOk Try.prog G44 := G43_ok.add ⟨Try.f256, Try.func256, by kernel_rfl, by kernel_rfl⟩ cmp_isNaN_int_c

/-! ### cmp.Compare[int] -/

def cmp_Compare_int_loops : Nat → Option LoopSpec
  | _ => none

theorem cmp_Compare_int_x (a0 : Int) (a1 : Int) : execFn G44 cmp_Compare_int_loops Try.f207 [.int .i64 a0, .int .i64 a1] [] = cmp_Compare_int_d a0 a1 (fun (y : Int) => some ⟨.ret, [.int .i64 y], []⟩) := by kernel_rfl

theorem cmp_Compare_int_y (a0 : Int) (a1 : Int) : execFn G44 cmp_Compare_int_loops Try.f207 [.int .i64 a0, .int .i64 a1] [] = cmp_Compare_int_k a0 a1 (fun (y : Int) => some ⟨.ret, [.int .i64 y], []⟩) := (cmp_Compare_int_x a0 a1).trans (by rw [cmp_Compare_int_e])

theorem cmp_Compare_int_l : LoopsOk G44 ⟨0, 20, cmp_Compare_int_loops⟩ (Try.f207.body.getD .skip) :=
  loopsOk_of (ids := []) (by kernel_rfl) (by kernel_rfl) trivial

theorem cmp_Compare_int_c : Contract Try.prog 207 cmp_Compare_int_g := by
  refine told G44_ok follows Try.func207 (c := Try.f207.body.getD .skip) (by kernel_rfl) ?_
  intro args s k r hk
  unfold cmp_Compare_int_g at hk
  rcases onPats_inv hk with ⟨p, q, rfl, rfl⟩ | hk
  · exact ⟨cmp_Compare_int_loops, cmp_Compare_int_q p.1 p.2.1, cmp_Compare_int_y p.1 p.2.1, cmp_Compare_int_l⟩
  cases hk

def G45 : Glob := G44.add 207 cmp_Compare_int_g

theorem G45_ok : GlobOk Try.prog G45 := G44_ok.add ⟨Try.f207, Try.func207, by kernel_rfl, by kernel_rfl⟩ cmp_Compare_int_c

/-! ### loop.example/g00327/impl.compareVersion -/

def impl_compareVersion_loops : Nat → Option LoopSpec
  | _ => none

theorem impl_compareVersion_x (a0 : ByteArray) (a1 : ByteArray) (a2 : Bool) (a3 : Int) (a4 : ByteArray) (a5 : ByteArray) (a6 : Bool) (a7 : Int) : execFn G45 impl_compareVersion_loops Try.f138 [.agg [.str a0, .str a1, .bool a2, .int .i64 a3], .agg [.str a4, .str a5, .bool a6, .int .i64 a7]] [] = impl_compareVersion_d (a0, (a1, (a2, a3))) (a4, (a5, (a6, a7))) (fun (y : Int) => some ⟨.ret, [.int .i64 y], []⟩) := by kernel_rfl

theorem impl_compareVersion_y (a0 : ByteArray) (a1 : ByteArray) (a2 : Bool) (a3 : Int) (a4 : ByteArray) (a5 : ByteArray) (a6 : Bool) (a7 : Int) : execFn G45 impl_compareVersion_loops Try.f138 [.agg [.str a0, .str a1, .bool a2, .int .i64 a3], .agg [.str a4, .str a5, .bool a6, .int .i64 a7]] [] = impl_compareVersion_k (a0, (a1, (a2, a3))) (a4, (a5, (a6, a7))) (fun (y : Int) => some ⟨.ret, [.int .i64 y], []⟩) := (impl_compareVersion_x a0 a1 a2 a3 a4 a5 a6 a7).trans (by rw [impl_compareVersion_e])

theorem impl_compareVersion_l : LoopsOk G45 ⟨0, 19, impl_compareVersion_loops⟩ (Try.f138.body.getD .skip) :=
  loopsOk_of (ids := []) (by kernel_rfl) (by kernel_rfl) trivial

theorem impl_compareVersion_c : Contract Try.prog 138 impl_compareVersion_g := by
  refine told G45_ok follows Try.func138 (c := Try.f138.body.getD .skip) (by kernel_rfl) ?_
  intro args s k r hk
  unfold impl_compareVersion_g at hk
  rcases onPats_inv hk with ⟨p, q, rfl, rfl⟩ | hk
  · exact ⟨impl_compareVersion_loops, impl_compareVersion_q p.1.1 p.1.2.1 p.1.2.2.1 p.1.2.2.2.1 p.2.1.1 p.2.1.2.1 p.2.1.2.2.1 p.2.1.2.2.2.1, impl_compareVersion_y p.1.1 p.1.2.1 p.1.2.2.1 p.1.2.2.2.1 p.2.1.1 p.2.1.2.1 p.2.1.2.2.1 p.2.1.2.2.2.1, impl_compareVersion_l⟩
  cases hk

def G46 : Glob := G45.add 138 impl_compareVersion_g

theorem G46_ok : GlobOk Try.prog G46 := G45_ok.add ⟨Try.f138, Try.func138, by kernel_rfl, by kernel_rfl⟩ impl_compareVersion_c

/-! ### loop.example/g00327/impl.VersionsOk -/

def impl_VersionsOk_loops : Nat → Option LoopSpec
  | 0 => some ⟨[0, 2, 5, 6, 7], [], fun vals st k => onPats [.lst tVersion, .bool, .lst tVersion, .int .i64, .int .i64] [] vals st (fun p q => loopK impl_VersionsOk_b0 Fuel (p.1, p.2.1, p.2.2.1, p.2.2.2.1, p.2.2.2.2.1) (Sum.elim (fun z => k .ret [.lst tVersion z.1, .bool z.2.1, .lst tVersion z.2.2.1, .int .i64 z.2.2.2.1, .int .i64 z.2.2.2.2] []) (fun z => k (.exit 0) [.lst tVersion z.1, .bool z.2.1, .lst tVersion z.2.2.1, .int .i64 z.2.2.2.1, .int .i64 z.2.2.2.2] [])))
      (none)⟩
  | 2000004 => some ⟨[0, 2, 5, 6, 8, 10, 12, 14, 16, 18, 20, 22, 24, 26, 28, 30, 32, 34, 36, 38, 40, 42, 45, 46, 48, 50, 52, 54, 56, 58, 60, 62, 64, 66, 68, 71, 72, 74, 76], [], fun _ _ _ => none⟩
  | _ => none

def impl_VersionsOk_v0 : ((List dVersion) × Bool × (List dVersion) × Int × Int) → List AV := (fun x => [.lst tVersion x.1, .bool x.2.1, .lst tVersion x.2.2.1, .int .i64 x.2.2.2.1, .int .i64 x.2.2.2.2])
def impl_VersionsOk_s0 : ((List dVersion) × Bool × (List dVersion) × Int × Int) → St := (fun x => [])
def impl_VersionsOk_e0 : (((List dVersion) × Bool × (List dVersion) × Int × Int) ⊕ ((List dVersion) × Bool × (List dVersion) × Int × Int)) → Out × List AV × St := (Sum.elim (fun z => (.ret, [.lst tVersion z.1, .bool z.2.1, .lst tVersion z.2.2.1, .int .i64 z.2.2.2.1, .int .i64 z.2.2.2.2], [])) (fun z => ((.exit 0), [.lst tVersion z.1, .bool z.2.1, .lst tVersion z.2.2.1, .int .i64 z.2.2.2.1, .int .i64 z.2.2.2.2], [])))

theorem impl_VersionsOk_bx0 (x : ((List dVersion) × Bool × (List dVersion) × Int × Int)) : exec G46 ⟨0, 55, impl_VersionsOk_loops⟩ (loopBody Try.f63 0) (bodyK ⟨0, 55, impl_VersionsOk_loops⟩ [0, 2, 5, 6, 7] []) (setEs (deads 55) [0, 2, 5, 6, 7] (impl_VersionsOk_v0 x)) (impl_VersionsOk_s0 x) = impl_VersionsOk_b0 x (Sum.elim (fun y => some ⟨.norm, impl_VersionsOk_v0 y, impl_VersionsOk_s0 y⟩) fun z => some ⟨(impl_VersionsOk_e0 z).1, (impl_VersionsOk_e0 z).2.1, (impl_VersionsOk_e0 z).2.2⟩) := by
  kernel_rfl

theorem impl_VersionsOk_lo0 : ∀ sp, (impl_VersionsOk_loops 0) = some sp → LoopOk G46 ⟨0, 55, impl_VersionsOk_loops⟩ sp (loopBody Try.f63 0) := by
  intro sp hsp vals st k r h
  cases hsp
  dsimp only at h
  rcases onPats_inv2 h with ⟨p, q, rfl, rfl, h⟩ | h
  · exact loop_runs2 impl_VersionsOk_bp0 impl_VersionsOk_v0 impl_VersionsOk_s0 impl_VersionsOk_e0 (fun z => by rcases z with z | z <;> (intro h; cases h)) impl_VersionsOk_bx0 Fuel (p.1, p.2.1, p.2.2.1, p.2.2.2.1, p.2.2.2.2.1) _ k r (fun z => by rcases z with z | z <;> rfl) h
  cases h

theorem impl_VersionsOk_x (a0 : (List dVersion)) : execFn G46 impl_VersionsOk_loops Try.f63 [.lst tVersion a0] [] = impl_VersionsOk_d a0 (fun (y : Bool) => some ⟨.ret, [.bool y], []⟩) := by kernel_rfl

theorem impl_VersionsOk_y (a0 : (List dVersion)) : execFn G46 impl_VersionsOk_loops Try.f63 [.lst tVersion a0] [] = impl_VersionsOk_k a0 (fun (y : Bool) => some ⟨.ret, [.bool y], []⟩) := (impl_VersionsOk_x a0).trans (by rw [impl_VersionsOk_e])

theorem impl_VersionsOk_l : LoopsOk G46 ⟨0, 55, impl_VersionsOk_loops⟩ (Try.f63.body.getD .skip) :=
  loopsOk_of (ids := [0]) (by kernel_rfl) (by kernel_rfl) ⟨impl_VersionsOk_lo0, trivial⟩

theorem impl_VersionsOk_c : Contract Try.prog 63 impl_VersionsOk_g := by
  refine told G46_ok follows Try.func63 (c := Try.f63.body.getD .skip) (by kernel_rfl) ?_
  intro args s k r hk
  unfold impl_VersionsOk_g at hk
  rcases onPats_inv hk with ⟨p, q, rfl, rfl⟩ | hk
  · exact ⟨impl_VersionsOk_loops, impl_VersionsOk_q p.1, impl_VersionsOk_y p.1, impl_VersionsOk_l⟩
  cases hk

def G47 : Glob := G46.add 63 impl_VersionsOk_g

theorem G47_ok : GlobOk Try.prog G47 := G46_ok.add ⟨Try.f63, Try.func63, by kernel_rfl, by kernel_rfl⟩ impl_VersionsOk_c

/-! ### slices.Grow[[]loop.example/g00327/impl.Txn,loop.example/g00327/impl.Txn] -/

def slices_Grow_Txn_vn_loops : Nat → Option LoopSpec
  | 3000000 => some ⟨[], [some tTxn], fun _ _ _ => none⟩
  | _ => none

theorem slices_Grow_Txn_vn_x (a0 : Int) : execFn G47 slices_Grow_Txn_vn_loops Try.f169 [.nilS, .int .i64 a0] [] = slices_Grow_Txn_vn_d a0 (fun (y : (List dTxn)) => some ⟨.ret, [.own 0], [.arr tTxn y]⟩) := by kernel_rfl

theorem slices_Grow_Txn_vn_y (a0 : Int) : execFn G47 slices_Grow_Txn_vn_loops Try.f169 [.nilS, .int .i64 a0] [] = slices_Grow_Txn_vn_k a0 (fun (y : (List dTxn)) => some ⟨.ret, [.own 0], [.arr tTxn y]⟩) := (slices_Grow_Txn_vn_x a0).trans (by rw [slices_Grow_Txn_vn_e])

theorem slices_Grow_Txn_vn_l : LoopsOk G47 ⟨0, 27, slices_Grow_Txn_vn_loops⟩ (Try.f169.body.getD .skip) :=
  loopsOk_of (ids := []) (by kernel_rfl) (by kernel_rfl) trivial

theorem slices_Grow_Txn_c : Contract Try.prog 169 slices_Grow_Txn_g := by
  refine told G47_ok follows Try.func169 (c := Try.f169.body.getD .skip) (by kernel_rfl) ?_
  intro args s k r hk
  unfold slices_Grow_Txn_g at hk
  rcases onPats_inv hk with ⟨p, q, rfl, rfl⟩ | hk
  · exact ⟨slices_Grow_Txn_vn_loops, slices_Grow_Txn_vn_q p.2.1, slices_Grow_Txn_vn_y p.2.1, slices_Grow_Txn_vn_l⟩
  cases hk

def G48 : Glob := G47.add 169 slices_Grow_Txn_g

theorem G48_ok : GlobOk Try.prog G48 := G47_ok.add ⟨Try.f169, Try.func169, by kernel_rfl, by kernel_rfl⟩ slices_Grow_Txn_c

/-! ### slices.Concat[[]loop.example/g00327/impl.Txn,loop.example/g00327/impl.Txn] -/

def slices_Concat_Txn_loops : Nat → Option LoopSpec
  | 0 => some ⟨[0, 3, 9, 10, 11], [], fun vals st k => onPats [.lst (.slice tTxn), .int .i64, .lst (.slice tTxn), .int .i64, .int .i64] [] vals st (fun p q => loopK slices_Concat_Txn_b0 Fuel (p.1, p.2.1, p.2.2.1, p.2.2.2.1, p.2.2.2.2.1) (fun z => k (.exit 0) [.lst (.slice tTxn) z.1, .int .i64 z.2.1, .lst (.slice tTxn) z.2.2.1, .int .i64 z.2.2.2.1, .int .i64 z.2.2.2.2] []))
      (none)⟩
  | 2 => some ⟨[6, 25, 26, 27], [], fun vals st k => onPats [.own 0, .lst (.slice tTxn), .int .i64, .int .i64] [.arr tTxn] vals st (fun p q => loopK slices_Concat_Txn_b2 Fuel (p.2.1, p.2.2.1, p.2.2.2.1, q.1) (fun z => k (.exit 2) [.own 0, .lst (.slice tTxn) z.1, .int .i64 z.2.1, .int .i64 z.2.2.1] [.arr tTxn z.2.2.2]))
      (none)⟩
  | _ => none

def slices_Concat_Txn_v0 : ((List (List dTxn)) × Int × (List (List dTxn)) × Int × Int) → List AV := (fun x => [.lst (.slice tTxn) x.1, .int .i64 x.2.1, .lst (.slice tTxn) x.2.2.1, .int .i64 x.2.2.2.1, .int .i64 x.2.2.2.2])
def slices_Concat_Txn_s0 : ((List (List dTxn)) × Int × (List (List dTxn)) × Int × Int) → St := (fun x => [])
def slices_Concat_Txn_e0 : ((List (List dTxn)) × Int × (List (List dTxn)) × Int × Int) → Out × List AV × St := (fun z => ((.exit 0), [.lst (.slice tTxn) z.1, .int .i64 z.2.1, .lst (.slice tTxn) z.2.2.1, .int .i64 z.2.2.2.1, .int .i64 z.2.2.2.2], []))

theorem slices_Concat_Txn_bx0 (x : ((List (List dTxn)) × Int × (List (List dTxn)) × Int × Int)) : exec G48 ⟨0, 36, slices_Concat_Txn_loops⟩ (loopBody Try.f81 0) (bodyK ⟨0, 36, slices_Concat_Txn_loops⟩ [0, 3, 9, 10, 11] []) (setEs (deads 36) [0, 3, 9, 10, 11] (slices_Concat_Txn_v0 x)) (slices_Concat_Txn_s0 x) = slices_Concat_Txn_b0 x (Sum.elim (fun y => some ⟨.norm, slices_Concat_Txn_v0 y, slices_Concat_Txn_s0 y⟩) fun z => some ⟨(slices_Concat_Txn_e0 z).1, (slices_Concat_Txn_e0 z).2.1, (slices_Concat_Txn_e0 z).2.2⟩) := by
  kernel_rfl

theorem slices_Concat_Txn_lo0 : ∀ sp, (slices_Concat_Txn_loops 0) = some sp → LoopOk G48 ⟨0, 36, slices_Concat_Txn_loops⟩ sp (loopBody Try.f81 0) := by
  intro sp hsp vals st k r h
  cases hsp
  dsimp only at h
  rcases onPats_inv2 h with ⟨p, q, rfl, rfl, h⟩ | h
  · exact loop_runs2 slices_Concat_Txn_bp0 slices_Concat_Txn_v0 slices_Concat_Txn_s0 slices_Concat_Txn_e0 (fun z => by (intro h; cases h)) slices_Concat_Txn_bx0 Fuel (p.1, p.2.1, p.2.2.1, p.2.2.2.1, p.2.2.2.2.1) _ k r (fun z => rfl) h
  cases h

def slices_Concat_Txn_v2 : ((List (List dTxn)) × Int × Int × (List dTxn)) → List AV := (fun x => [.own 0, .lst (.slice tTxn) x.1, .int .i64 x.2.1, .int .i64 x.2.2.1])
def slices_Concat_Txn_s2 : ((List (List dTxn)) × Int × Int × (List dTxn)) → St := (fun x => [.arr tTxn x.2.2.2])
def slices_Concat_Txn_e2 : ((List (List dTxn)) × Int × Int × (List dTxn)) → Out × List AV × St := (fun z => ((.exit 2), [.own 0, .lst (.slice tTxn) z.1, .int .i64 z.2.1, .int .i64 z.2.2.1], [.arr tTxn z.2.2.2]))

theorem slices_Concat_Txn_bx2 (x : ((List (List dTxn)) × Int × Int × (List dTxn))) : exec G48 ⟨0, 36, slices_Concat_Txn_loops⟩ (loopBody Try.f81 2) (bodyK ⟨0, 36, slices_Concat_Txn_loops⟩ [6, 25, 26, 27] []) (setEs (deads 36) [6, 25, 26, 27] (slices_Concat_Txn_v2 x)) (slices_Concat_Txn_s2 x) = slices_Concat_Txn_b2 x (Sum.elim (fun y => some ⟨.norm, slices_Concat_Txn_v2 y, slices_Concat_Txn_s2 y⟩) fun z => some ⟨(slices_Concat_Txn_e2 z).1, (slices_Concat_Txn_e2 z).2.1, (slices_Concat_Txn_e2 z).2.2⟩) := by
  kernel_rfl

theorem slices_Concat_Txn_lo2 : ∀ sp, (slices_Concat_Txn_loops 2) = some sp → LoopOk G48 ⟨0, 36, slices_Concat_Txn_loops⟩ sp (loopBody Try.f81 2) := by
  intro sp hsp vals st k r h
  cases hsp
  dsimp only at h
  rcases onPats_inv2 h with ⟨p, q, rfl, rfl, h⟩ | h
  · exact loop_runs2 slices_Concat_Txn_bp2 slices_Concat_Txn_v2 slices_Concat_Txn_s2 slices_Concat_Txn_e2 (fun z => by (intro h; cases h)) slices_Concat_Txn_bx2 Fuel (p.2.1, p.2.2.1, p.2.2.2.1, q.1) _ k r (fun z => rfl) h
  cases h

theorem slices_Concat_Txn_x (a0 : (List (List dTxn))) : execFn G48 slices_Concat_Txn_loops Try.f81 [.lst (.slice tTxn) a0] [] = slices_Concat_Txn_d a0 (fun (y : (List dTxn)) => some ⟨.ret, [.own 0], [.arr tTxn y]⟩) := by kernel_rfl

theorem slices_Concat_Txn_y (a0 : (List (List dTxn))) : execFn G48 slices_Concat_Txn_loops Try.f81 [.lst (.slice tTxn) a0] [] = slices_Concat_Txn_k a0 (fun (y : (List dTxn)) => some ⟨.ret, [.own 0], [.arr tTxn y]⟩) := (slices_Concat_Txn_x a0).trans (by rw [slices_Concat_Txn_e])

theorem slices_Concat_Txn_l : LoopsOk G48 ⟨0, 36, slices_Concat_Txn_loops⟩ (Try.f81.body.getD .skip) :=
  loopsOk_of (ids := [0, 2]) (by kernel_rfl) (by kernel_rfl) ⟨slices_Concat_Txn_lo0, ⟨slices_Concat_Txn_lo2, trivial⟩⟩

theorem slices_Concat_Txn_c : Contract Try.prog 81 slices_Concat_Txn_g := by
  refine told G48_ok follows Try.func81 (c := Try.f81.body.getD .skip) (by kernel_rfl) ?_
  intro args s k r hk
  unfold slices_Concat_Txn_g at hk
  rcases onPats_inv hk with ⟨p, q, rfl, rfl⟩ | hk
  · exact ⟨slices_Concat_Txn_loops, slices_Concat_Txn_q p.1, slices_Concat_Txn_y p.1, slices_Concat_Txn_l⟩
  cases hk

def G49 : Glob := G48.add 81 slices_Concat_Txn_g

theorem G49_ok : GlobOk Try.prog G49 := G48_ok.add ⟨Try.f81, Try.func81, by kernel_rfl, by kernel_rfl⟩ slices_Concat_Txn_c

/-! ### loop.example/g00327/impl.idsUnlike$1 -/

def impl_idsUnlike_1_loops : Nat → Option LoopSpec
  | _ => none

theorem impl_idsUnlike_1_x (a0 : Int) (a1 : Int) (a2 : Int) (a3 : Int) (a4 : (List dRange)) (a5 : (List dWrite)) (a6 : Bool) (a7 : ByteArray) (a8 : Int) (a9 : Int) (a10 : Int) (a11 : Int) (a12 : (List dRange)) (a13 : (List dWrite)) (a14 : Bool) (a15 : ByteArray) : execFn G49 impl_idsUnlike_1_loops Try.f168 [.agg [.int .i64 a0, .int .i64 a1, .int .i64 a2, .int .i64 a3, .lst tRange a4, .lst tWrite a5, .bool a6, .str a7], .bp 0 0] [.box [.int .i64 a8, .int .i64 a9, .int .i64 a10, .int .i64 a11, .lst tRange a12, .lst tWrite a13, .bool a14, .str a15]] = impl_idsUnlike_1_d (a0, (a1, (a2, (a3, (a4, (a5, (a6, a7))))))) a8 a9 a10 a11 a12 a13 a14 a15 (fun (y : (Bool × Int × Int × Int × Int × (List dRange) × (List dWrite) × Bool × ByteArray)) => some ⟨.ret, [.bool y.1], [.box [.int .i64 y.2.1, .int .i64 y.2.2.1, .int .i64 y.2.2.2.1, .int .i64 y.2.2.2.2.1, .lst tRange y.2.2.2.2.2.1, .lst tWrite y.2.2.2.2.2.2.1, .bool y.2.2.2.2.2.2.2.1, .str y.2.2.2.2.2.2.2.2]]⟩) := by kernel_rfl

theorem impl_idsUnlike_1_y (a0 : Int) (a1 : Int) (a2 : Int) (a3 : Int) (a4 : (List dRange)) (a5 : (List dWrite)) (a6 : Bool) (a7 : ByteArray) (a8 : Int) (a9 : Int) (a10 : Int) (a11 : Int) (a12 : (List dRange)) (a13 : (List dWrite)) (a14 : Bool) (a15 : ByteArray) : execFn G49 impl_idsUnlike_1_loops Try.f168 [.agg [.int .i64 a0, .int .i64 a1, .int .i64 a2, .int .i64 a3, .lst tRange a4, .lst tWrite a5, .bool a6, .str a7], .bp 0 0] [.box [.int .i64 a8, .int .i64 a9, .int .i64 a10, .int .i64 a11, .lst tRange a12, .lst tWrite a13, .bool a14, .str a15]] = impl_idsUnlike_1_k (a0, (a1, (a2, (a3, (a4, (a5, (a6, a7))))))) a8 a9 a10 a11 a12 a13 a14 a15 (fun (y : (Bool × Int × Int × Int × Int × (List dRange) × (List dWrite) × Bool × ByteArray)) => some ⟨.ret, [.bool y.1], [.box [.int .i64 y.2.1, .int .i64 y.2.2.1, .int .i64 y.2.2.2.1, .int .i64 y.2.2.2.2.1, .lst tRange y.2.2.2.2.2.1, .lst tWrite y.2.2.2.2.2.2.1, .bool y.2.2.2.2.2.2.2.1, .str y.2.2.2.2.2.2.2.2]]⟩) := (impl_idsUnlike_1_x a0 a1 a2 a3 a4 a5 a6 a7 a8 a9 a10 a11 a12 a13 a14 a15).trans (by rw [impl_idsUnlike_1_e])

theorem impl_idsUnlike_1_l : LoopsOk G49 ⟨1, 9, impl_idsUnlike_1_loops⟩ (Try.f168.body.getD .skip) :=
  loopsOk_of (ids := []) (by kernel_rfl) (by kernel_rfl) trivial

theorem impl_idsUnlike_1_c : Contract Try.prog 168 impl_idsUnlike_1_g := by
  refine told G49_ok follows Try.func168 (c := Try.f168.body.getD .skip) (by kernel_rfl) ?_
  intro args s k r hk
  unfold impl_idsUnlike_1_g at hk
  rcases onPats_inv hk with ⟨p, q, rfl, rfl⟩ | hk
  · exact ⟨impl_idsUnlike_1_loops, impl_idsUnlike_1_q p.1.1 p.1.2.1 p.1.2.2.1 p.1.2.2.2.1 p.1.2.2.2.2.1 p.1.2.2.2.2.2.1 p.1.2.2.2.2.2.2.1 p.1.2.2.2.2.2.2.2.1 q.1.1 q.1.2.1 q.1.2.2.1 q.1.2.2.2.1 q.1.2.2.2.2.1 q.1.2.2.2.2.2.1 q.1.2.2.2.2.2.2.1 q.1.2.2.2.2.2.2.2.1, impl_idsUnlike_1_y p.1.1 p.1.2.1 p.1.2.2.1 p.1.2.2.2.1 p.1.2.2.2.2.1 p.1.2.2.2.2.2.1 p.1.2.2.2.2.2.2.1 p.1.2.2.2.2.2.2.2.1 q.1.1 q.1.2.1 q.1.2.2.1 q.1.2.2.2.1 q.1.2.2.2.2.1 q.1.2.2.2.2.2.1 q.1.2.2.2.2.2.2.1 q.1.2.2.2.2.2.2.2.1, impl_idsUnlike_1_l⟩
  cases hk

def G50 : Glob := G49.add 168 impl_idsUnlike_1_g

theorem G50_ok : GlobOk Try.prog G50 := G49_ok.add ⟨Try.f168, Try.func168, by kernel_rfl, by kernel_rfl⟩ impl_idsUnlike_1_c

/-! ### slices.IndexFunc[[]loop.example/g00327/impl.Txn,loop.example/g00327/impl.Txn] -/

def slices_IndexFunc_Txn_idsUnlike_1_loops : Nat → Option LoopSpec
  | 0 => some ⟨[0, 1, 4, 7, 8], [], fun vals st k => onPats [.lst tTxn, .fn 168 [.bp 0 0], .int .i64, .int .i64, .int .i64] [.box [.int .i64, .int .i64, .int .i64, .int .i64, .lst tRange, .lst tWrite, .bool, .str]] vals st (fun p q => loopK slices_IndexFunc_Txn_idsUnlike_1_b0 Fuel (p.1, p.2.2.1, p.2.2.2.1, p.2.2.2.2.1, q.1.1, q.1.2.1, q.1.2.2.1, q.1.2.2.2.1, q.1.2.2.2.2.1, q.1.2.2.2.2.2.1, q.1.2.2.2.2.2.2.1, q.1.2.2.2.2.2.2.2.1) (Sum.elim (fun z => k .ret [.lst tTxn z.1, .fn 168 [.bp 0 0], .int .i64 z.2.1, .int .i64 z.2.2.1, .int .i64 z.2.2.2.1] [.box [.int .i64 z.2.2.2.2.1, .int .i64 z.2.2.2.2.2.1, .int .i64 z.2.2.2.2.2.2.1, .int .i64 z.2.2.2.2.2.2.2.1, .lst tRange z.2.2.2.2.2.2.2.2.1, .lst tWrite z.2.2.2.2.2.2.2.2.2.1, .bool z.2.2.2.2.2.2.2.2.2.2.1, .str z.2.2.2.2.2.2.2.2.2.2.2]]) (fun z => k (.exit 0) [.lst tTxn z.1, .fn 168 [.bp 0 0], .int .i64 z.2.1, .int .i64 z.2.2.1, .int .i64 z.2.2.2.1] [.box [.int .i64 z.2.2.2.2.1, .int .i64 z.2.2.2.2.2.1, .int .i64 z.2.2.2.2.2.2.1, .int .i64 z.2.2.2.2.2.2.2.1, .lst tRange z.2.2.2.2.2.2.2.2.1, .lst tWrite z.2.2.2.2.2.2.2.2.2.1, .bool z.2.2.2.2.2.2.2.2.2.2.1, .str z.2.2.2.2.2.2.2.2.2.2.2]])))
      (none)⟩
  | _ => none

def slices_IndexFunc_Txn_idsUnlike_1_v0 : ((List dTxn) × Int × Int × Int × Int × Int × Int × Int × (List dRange) × (List dWrite) × Bool × ByteArray) → List AV := (fun x => [.lst tTxn x.1, .fn 168 [.bp 0 0], .int .i64 x.2.1, .int .i64 x.2.2.1, .int .i64 x.2.2.2.1])
def slices_IndexFunc_Txn_idsUnlike_1_s0 : ((List dTxn) × Int × Int × Int × Int × Int × Int × Int × (List dRange) × (List dWrite) × Bool × ByteArray) → St := (fun x => [.box [.int .i64 x.2.2.2.2.1, .int .i64 x.2.2.2.2.2.1, .int .i64 x.2.2.2.2.2.2.1, .int .i64 x.2.2.2.2.2.2.2.1, .lst tRange x.2.2.2.2.2.2.2.2.1, .lst tWrite x.2.2.2.2.2.2.2.2.2.1, .bool x.2.2.2.2.2.2.2.2.2.2.1, .str x.2.2.2.2.2.2.2.2.2.2.2]])
def slices_IndexFunc_Txn_idsUnlike_1_e0 : (((List dTxn) × Int × Int × Int × Int × Int × Int × Int × (List dRange) × (List dWrite) × Bool × ByteArray) ⊕ ((List dTxn) × Int × Int × Int × Int × Int × Int × Int × (List dRange) × (List dWrite) × Bool × ByteArray)) → Out × List AV × St := (Sum.elim (fun z => (.ret, [.lst tTxn z.1, .fn 168 [.bp 0 0], .int .i64 z.2.1, .int .i64 z.2.2.1, .int .i64 z.2.2.2.1], [.box [.int .i64 z.2.2.2.2.1, .int .i64 z.2.2.2.2.2.1, .int .i64 z.2.2.2.2.2.2.1, .int .i64 z.2.2.2.2.2.2.2.1, .lst tRange z.2.2.2.2.2.2.2.2.1, .lst tWrite z.2.2.2.2.2.2.2.2.2.1, .bool z.2.2.2.2.2.2.2.2.2.2.1, .str z.2.2.2.2.2.2.2.2.2.2.2]])) (fun z => ((.exit 0), [.lst tTxn z.1, .fn 168 [.bp 0 0], .int .i64 z.2.1, .int .i64 z.2.2.1, .int .i64 z.2.2.2.1], [.box [.int .i64 z.2.2.2.2.1, .int .i64 z.2.2.2.2.2.1, .int .i64 z.2.2.2.2.2.2.1, .int .i64 z.2.2.2.2.2.2.2.1, .lst tRange z.2.2.2.2.2.2.2.2.1, .lst tWrite z.2.2.2.2.2.2.2.2.2.1, .bool z.2.2.2.2.2.2.2.2.2.2.1, .str z.2.2.2.2.2.2.2.2.2.2.2]])))

theorem slices_IndexFunc_Txn_idsUnlike_1_bx0 (x : ((List dTxn) × Int × Int × Int × Int × Int × Int × Int × (List dRange) × (List dWrite) × Bool × ByteArray)) : exec G50 ⟨1, 19, slices_IndexFunc_Txn_idsUnlike_1_loops⟩ (loopBody Try.f196 0) (bodyK ⟨1, 19, slices_IndexFunc_Txn_idsUnlike_1_loops⟩ [0, 1, 4, 7, 8] []) (setEs (deads 19) [0, 1, 4, 7, 8] (slices_IndexFunc_Txn_idsUnlike_1_v0 x)) (slices_IndexFunc_Txn_idsUnlike_1_s0 x) = slices_IndexFunc_Txn_idsUnlike_1_b0 x (Sum.elim (fun y => some ⟨.norm, slices_IndexFunc_Txn_idsUnlike_1_v0 y, slices_IndexFunc_Txn_idsUnlike_1_s0 y⟩) fun z => some ⟨(slices_IndexFunc_Txn_idsUnlike_1_e0 z).1, (slices_IndexFunc_Txn_idsUnlike_1_e0 z).2.1, (slices_IndexFunc_Txn_idsUnlike_1_e0 z).2.2⟩) := by
  kernel_rfl

theorem slices_IndexFunc_Txn_idsUnlike_1_lo0 : ∀ sp, (slices_IndexFunc_Txn_idsUnlike_1_loops 0) = some sp → LoopOk G50 ⟨1, 19, slices_IndexFunc_Txn_idsUnlike_1_loops⟩ sp (loopBody Try.f196 0) := by
  intro sp hsp vals st k r h
  cases hsp
  dsimp only at h
  rcases onPats_inv2 h with ⟨p, q, rfl, rfl, h⟩ | h
  · exact loop_runs2 slices_IndexFunc_Txn_idsUnlike_1_bp0 slices_IndexFunc_Txn_idsUnlike_1_v0 slices_IndexFunc_Txn_idsUnlike_1_s0 slices_IndexFunc_Txn_idsUnlike_1_e0 (fun z => by rcases z with z | z <;> (intro h; cases h)) slices_IndexFunc_Txn_idsUnlike_1_bx0 Fuel (p.1, p.2.2.1, p.2.2.2.1, p.2.2.2.2.1, q.1.1, q.1.2.1, q.1.2.2.1, q.1.2.2.2.1, q.1.2.2.2.2.1, q.1.2.2.2.2.2.1, q.1.2.2.2.2.2.2.1, q.1.2.2.2.2.2.2.2.1) _ k r (fun z => by rcases z with z | z <;> rfl) h
  cases h

theorem slices_IndexFunc_Txn_idsUnlike_1_x (a0 : (List dTxn)) (a1 : Int) (a2 : Int) (a3 : Int) (a4 : Int) (a5 : (List dRange)) (a6 : (List dWrite)) (a7 : Bool) (a8 : ByteArray) : execFn G50 slices_IndexFunc_Txn_idsUnlike_1_loops Try.f196 [.lst tTxn a0, .fn 168 [.bp 0 0]] [.box [.int .i64 a1, .int .i64 a2, .int .i64 a3, .int .i64 a4, .lst tRange a5, .lst tWrite a6, .bool a7, .str a8]] = slices_IndexFunc_Txn_idsUnlike_1_d a0 a1 a2 a3 a4 a5 a6 a7 a8 (fun (y : (Int × Int × Int × Int × Int × (List dRange) × (List dWrite) × Bool × ByteArray)) => some ⟨.ret, [.int .i64 y.1], [.box [.int .i64 y.2.1, .int .i64 y.2.2.1, .int .i64 y.2.2.2.1, .int .i64 y.2.2.2.2.1, .lst tRange y.2.2.2.2.2.1, .lst tWrite y.2.2.2.2.2.2.1, .bool y.2.2.2.2.2.2.2.1, .str y.2.2.2.2.2.2.2.2]]⟩) := by kernel_rfl

theorem slices_IndexFunc_Txn_idsUnlike_1_y (a0 : (List dTxn)) (a1 : Int) (a2 : Int) (a3 : Int) (a4 : Int) (a5 : (List dRange)) (a6 : (List dWrite)) (a7 : Bool) (a8 : ByteArray) : execFn G50 slices_IndexFunc_Txn_idsUnlike_1_loops Try.f196 [.lst tTxn a0, .fn 168 [.bp 0 0]] [.box [.int .i64 a1, .int .i64 a2, .int .i64 a3, .int .i64 a4, .lst tRange a5, .lst tWrite a6, .bool a7, .str a8]] = slices_IndexFunc_Txn_idsUnlike_1_k a0 a1 a2 a3 a4 a5 a6 a7 a8 (fun (y : (Int × Int × Int × Int × Int × (List dRange) × (List dWrite) × Bool × ByteArray)) => some ⟨.ret, [.int .i64 y.1], [.box [.int .i64 y.2.1, .int .i64 y.2.2.1, .int .i64 y.2.2.2.1, .int .i64 y.2.2.2.2.1, .lst tRange y.2.2.2.2.2.1, .lst tWrite y.2.2.2.2.2.2.1, .bool y.2.2.2.2.2.2.2.1, .str y.2.2.2.2.2.2.2.2]]⟩) := (slices_IndexFunc_Txn_idsUnlike_1_x a0 a1 a2 a3 a4 a5 a6 a7 a8).trans (by rw [slices_IndexFunc_Txn_idsUnlike_1_e])

theorem slices_IndexFunc_Txn_idsUnlike_1_l : LoopsOk G50 ⟨1, 19, slices_IndexFunc_Txn_idsUnlike_1_loops⟩ (Try.f196.body.getD .skip) :=
  loopsOk_of (ids := [0]) (by kernel_rfl) (by kernel_rfl) ⟨slices_IndexFunc_Txn_idsUnlike_1_lo0, trivial⟩

theorem slices_IndexFunc_Txn_c : Contract Try.prog 196 slices_IndexFunc_Txn_g := by
  refine told G50_ok follows Try.func196 (c := Try.f196.body.getD .skip) (by kernel_rfl) ?_
  intro args s k r hk
  unfold slices_IndexFunc_Txn_g at hk
  rcases onPats_inv hk with ⟨p, q, rfl, rfl⟩ | hk
  · exact ⟨slices_IndexFunc_Txn_idsUnlike_1_loops, slices_IndexFunc_Txn_idsUnlike_1_q p.1 q.1.1 q.1.2.1 q.1.2.2.1 q.1.2.2.2.1 q.1.2.2.2.2.1 q.1.2.2.2.2.2.1 q.1.2.2.2.2.2.2.1 q.1.2.2.2.2.2.2.2.1, slices_IndexFunc_Txn_idsUnlike_1_y p.1 q.1.1 q.1.2.1 q.1.2.2.1 q.1.2.2.2.1 q.1.2.2.2.2.1 q.1.2.2.2.2.2.1 q.1.2.2.2.2.2.2.1 q.1.2.2.2.2.2.2.2.1, slices_IndexFunc_Txn_idsUnlike_1_l⟩
  cases hk

def G51 : Glob := G50.add 196 slices_IndexFunc_Txn_g

theorem G51_ok : GlobOk Try.prog G51 := G50_ok.add ⟨Try.f196, Try.func196, by kernel_rfl, by kernel_rfl⟩ slices_IndexFunc_Txn_c

/-! ### slices.ContainsFunc[[]loop.example/g00327/impl.Txn,loop.example/g00327/impl.Txn] -/

def slices_ContainsFunc_Txn_idsUnlike_1_loops : Nat → Option LoopSpec
  | _ => none

theorem slices_ContainsFunc_Txn_idsUnlike_1_x (a0 : (List dTxn)) (a1 : Int) (a2 : Int) (a3 : Int) (a4 : Int) (a5 : (List dRange)) (a6 : (List dWrite)) (a7 : Bool) (a8 : ByteArray) : execFn G51 slices_ContainsFunc_Txn_idsUnlike_1_loops Try.f232 [.lst tTxn a0, .fn 168 [.bp 0 0]] [.box [.int .i64 a1, .int .i64 a2, .int .i64 a3, .int .i64 a4, .lst tRange a5, .lst tWrite a6, .bool a7, .str a8]] = slices_ContainsFunc_Txn_idsUnlike_1_d a0 a1 a2 a3 a4 a5 a6 a7 a8 (fun (y : (Bool × Int × Int × Int × Int × (List dRange) × (List dWrite) × Bool × ByteArray)) => some ⟨.ret, [.bool y.1], [.box [.int .i64 y.2.1, .int .i64 y.2.2.1, .int .i64 y.2.2.2.1, .int .i64 y.2.2.2.2.1, .lst tRange y.2.2.2.2.2.1, .lst tWrite y.2.2.2.2.2.2.1, .bool y.2.2.2.2.2.2.2.1, .str y.2.2.2.2.2.2.2.2]]⟩) := by kernel_rfl

theorem slices_ContainsFunc_Txn_idsUnlike_1_y (a0 : (List dTxn)) (a1 : Int) (a2 : Int) (a3 : Int) (a4 : Int) (a5 : (List dRange)) (a6 : (List dWrite)) (a7 : Bool) (a8 : ByteArray) : execFn G51 slices_ContainsFunc_Txn_idsUnlike_1_loops Try.f232 [.lst tTxn a0, .fn 168 [.bp 0 0]] [.box [.int .i64 a1, .int .i64 a2, .int .i64 a3, .int .i64 a4, .lst tRange a5, .lst tWrite a6, .bool a7, .str a8]] = slices_ContainsFunc_Txn_idsUnlike_1_k a0 a1 a2 a3 a4 a5 a6 a7 a8 (fun (y : (Bool × Int × Int × Int × Int × (List dRange) × (List dWrite) × Bool × ByteArray)) => some ⟨.ret, [.bool y.1], [.box [.int .i64 y.2.1, .int .i64 y.2.2.1, .int .i64 y.2.2.2.1, .int .i64 y.2.2.2.2.1, .lst tRange y.2.2.2.2.2.1, .lst tWrite y.2.2.2.2.2.2.1, .bool y.2.2.2.2.2.2.2.1, .str y.2.2.2.2.2.2.2.2]]⟩) := (slices_ContainsFunc_Txn_idsUnlike_1_x a0 a1 a2 a3 a4 a5 a6 a7 a8).trans (by rw [slices_ContainsFunc_Txn_idsUnlike_1_e])

theorem slices_ContainsFunc_Txn_idsUnlike_1_l : LoopsOk G51 ⟨1, 9, slices_ContainsFunc_Txn_idsUnlike_1_loops⟩ (Try.f232.body.getD .skip) :=
  loopsOk_of (ids := []) (by kernel_rfl) (by kernel_rfl) trivial

theorem slices_ContainsFunc_Txn_c : Contract Try.prog 232 slices_ContainsFunc_Txn_g := by
  refine told G51_ok follows Try.func232 (c := Try.f232.body.getD .skip) (by kernel_rfl) ?_
  intro args s k r hk
  unfold slices_ContainsFunc_Txn_g at hk
  rcases onPats_inv hk with ⟨p, q, rfl, rfl⟩ | hk
  · exact ⟨slices_ContainsFunc_Txn_idsUnlike_1_loops, slices_ContainsFunc_Txn_idsUnlike_1_q p.1 q.1.1 q.1.2.1 q.1.2.2.1 q.1.2.2.2.1 q.1.2.2.2.2.1 q.1.2.2.2.2.2.1 q.1.2.2.2.2.2.2.1 q.1.2.2.2.2.2.2.2.1, slices_ContainsFunc_Txn_idsUnlike_1_y p.1 q.1.1 q.1.2.1 q.1.2.2.1 q.1.2.2.2.1 q.1.2.2.2.2.1 q.1.2.2.2.2.2.1 q.1.2.2.2.2.2.2.1 q.1.2.2.2.2.2.2.2.1, slices_ContainsFunc_Txn_idsUnlike_1_l⟩
  cases hk

def G52 : Glob := G51.add 232 slices_ContainsFunc_Txn_g

theorem G52_ok : GlobOk Try.prog G52 := G51_ok.add ⟨Try.f232, Try.func232, by kernel_rfl, by kernel_rfl⟩ slices_ContainsFunc_Txn_c

/-! ### loop.example/g00327/impl.some -/

def impl_some_idsUnlike_1_loops : Nat → Option LoopSpec
  | _ => none

theorem impl_some_idsUnlike_1_x (a0 : (List dTxn)) (a1 : Int) (a2 : Int) (a3 : Int) (a4 : Int) (a5 : (List dRange)) (a6 : (List dWrite)) (a7 : Bool) (a8 : ByteArray) : execFn G52 impl_some_idsUnlike_1_loops Try.f167 [.lst tTxn a0, .fn 168 [.bp 0 0]] [.box [.int .i64 a1, .int .i64 a2, .int .i64 a3, .int .i64 a4, .lst tRange a5, .lst tWrite a6, .bool a7, .str a8]] = impl_some_idsUnlike_1_d a0 a1 a2 a3 a4 a5 a6 a7 a8 (fun (y : (Bool × Int × Int × Int × Int × (List dRange) × (List dWrite) × Bool × ByteArray)) => some ⟨.ret, [.bool y.1], [.box [.int .i64 y.2.1, .int .i64 y.2.2.1, .int .i64 y.2.2.2.1, .int .i64 y.2.2.2.2.1, .lst tRange y.2.2.2.2.2.1, .lst tWrite y.2.2.2.2.2.2.1, .bool y.2.2.2.2.2.2.2.1, .str y.2.2.2.2.2.2.2.2]]⟩) := by kernel_rfl

theorem impl_some_idsUnlike_1_y (a0 : (List dTxn)) (a1 : Int) (a2 : Int) (a3 : Int) (a4 : Int) (a5 : (List dRange)) (a6 : (List dWrite)) (a7 : Bool) (a8 : ByteArray) : execFn G52 impl_some_idsUnlike_1_loops Try.f167 [.lst tTxn a0, .fn 168 [.bp 0 0]] [.box [.int .i64 a1, .int .i64 a2, .int .i64 a3, .int .i64 a4, .lst tRange a5, .lst tWrite a6, .bool a7, .str a8]] = impl_some_idsUnlike_1_k a0 a1 a2 a3 a4 a5 a6 a7 a8 (fun (y : (Bool × Int × Int × Int × Int × (List dRange) × (List dWrite) × Bool × ByteArray)) => some ⟨.ret, [.bool y.1], [.box [.int .i64 y.2.1, .int .i64 y.2.2.1, .int .i64 y.2.2.2.1, .int .i64 y.2.2.2.2.1, .lst tRange y.2.2.2.2.2.1, .lst tWrite y.2.2.2.2.2.2.1, .bool y.2.2.2.2.2.2.2.1, .str y.2.2.2.2.2.2.2.2]]⟩) := (impl_some_idsUnlike_1_x a0 a1 a2 a3 a4 a5 a6 a7 a8).trans (by rw [impl_some_idsUnlike_1_e])

theorem impl_some_idsUnlike_1_l : LoopsOk G52 ⟨1, 8, impl_some_idsUnlike_1_loops⟩ (Try.f167.body.getD .skip) :=
  loopsOk_of (ids := []) (by kernel_rfl) (by kernel_rfl) trivial

theorem impl_some_c : Contract Try.prog 167 impl_some_g := by
  refine told G52_ok follows Try.func167 (c := Try.f167.body.getD .skip) (by kernel_rfl) ?_
  intro args s k r hk
  unfold impl_some_g at hk
  rcases onPats_inv hk with ⟨p, q, rfl, rfl⟩ | hk
  · exact ⟨impl_some_idsUnlike_1_loops, impl_some_idsUnlike_1_q p.1 q.1.1 q.1.2.1 q.1.2.2.1 q.1.2.2.2.1 q.1.2.2.2.2.1 q.1.2.2.2.2.2.1 q.1.2.2.2.2.2.2.1 q.1.2.2.2.2.2.2.2.1, impl_some_idsUnlike_1_y p.1 q.1.1 q.1.2.1 q.1.2.2.1 q.1.2.2.2.1 q.1.2.2.2.2.1 q.1.2.2.2.2.2.1 q.1.2.2.2.2.2.2.1 q.1.2.2.2.2.2.2.2.1, impl_some_idsUnlike_1_l⟩
  cases hk

def G53 : Glob := G52.add 167 impl_some_g

theorem G53_ok : GlobOk Try.prog G53 := G52_ok.add ⟨Try.f167, Try.func167, by kernel_rfl, by kernel_rfl⟩ impl_some_c

/-! ### loop.example/g00327/impl.idsUnlike -/

def impl_idsUnlike_loops : Nat → Option LoopSpec
  | 0 => some ⟨[0, 1, 4, 7, 8, 9], [], fun vals st k => onPats [.lst tTxn, .int .i64, .bool, .lst tTxn, .int .i64, .int .i64] [] vals st (fun p q => loopK impl_idsUnlike_b0 Fuel (p.1, p.2.1, p.2.2.1, p.2.2.2.1, p.2.2.2.2.1, p.2.2.2.2.2.1) (Sum.elim (fun z => k .ret [.lst tTxn z.1, .int .i64 z.2.1, .bool z.2.2.1, .lst tTxn z.2.2.2.1, .int .i64 z.2.2.2.2.1, .int .i64 z.2.2.2.2.2] []) (fun z => k (.exit 0) [.lst tTxn z.1, .int .i64 z.2.1, .bool z.2.2.1, .lst tTxn z.2.2.2.1, .int .i64 z.2.2.2.2.1, .int .i64 z.2.2.2.2.2] [])))
      (none)⟩
  | _ => none

def impl_idsUnlike_v0 : ((List dTxn) × Int × Bool × (List dTxn) × Int × Int) → List AV := (fun x => [.lst tTxn x.1, .int .i64 x.2.1, .bool x.2.2.1, .lst tTxn x.2.2.2.1, .int .i64 x.2.2.2.2.1, .int .i64 x.2.2.2.2.2])
def impl_idsUnlike_s0 : ((List dTxn) × Int × Bool × (List dTxn) × Int × Int) → St := (fun x => [])
def impl_idsUnlike_e0 : (((List dTxn) × Int × Bool × (List dTxn) × Int × Int) ⊕ ((List dTxn) × Int × Bool × (List dTxn) × Int × Int)) → Out × List AV × St := (Sum.elim (fun z => (.ret, [.lst tTxn z.1, .int .i64 z.2.1, .bool z.2.2.1, .lst tTxn z.2.2.2.1, .int .i64 z.2.2.2.2.1, .int .i64 z.2.2.2.2.2], [])) (fun z => ((.exit 0), [.lst tTxn z.1, .int .i64 z.2.1, .bool z.2.2.1, .lst tTxn z.2.2.2.1, .int .i64 z.2.2.2.2.1, .int .i64 z.2.2.2.2.2], [])))

theorem impl_idsUnlike_bx0 (x : ((List dTxn) × Int × Bool × (List dTxn) × Int × Int)) : exec G53 ⟨0, 26, impl_idsUnlike_loops⟩ (loopBody Try.f80 0) (bodyK ⟨0, 26, impl_idsUnlike_loops⟩ [0, 1, 4, 7, 8, 9] []) (setEs (deads 26) [0, 1, 4, 7, 8, 9] (impl_idsUnlike_v0 x)) (impl_idsUnlike_s0 x) = impl_idsUnlike_b0 x (Sum.elim (fun y => some ⟨.norm, impl_idsUnlike_v0 y, impl_idsUnlike_s0 y⟩) fun z => some ⟨(impl_idsUnlike_e0 z).1, (impl_idsUnlike_e0 z).2.1, (impl_idsUnlike_e0 z).2.2⟩) := by
  kernel_rfl

theorem impl_idsUnlike_lo0 : ∀ sp, (impl_idsUnlike_loops 0) = some sp → LoopOk G53 ⟨0, 26, impl_idsUnlike_loops⟩ sp (loopBody Try.f80 0) := by
  intro sp hsp vals st k r h
  cases hsp
  dsimp only at h
  rcases onPats_inv2 h with ⟨p, q, rfl, rfl, h⟩ | h
  · exact loop_runs2 impl_idsUnlike_bp0 impl_idsUnlike_v0 impl_idsUnlike_s0 impl_idsUnlike_e0 (fun z => by rcases z with z | z <;> (intro h; cases h)) impl_idsUnlike_bx0 Fuel (p.1, p.2.1, p.2.2.1, p.2.2.2.1, p.2.2.2.2.1, p.2.2.2.2.2.1) _ k r (fun z => by rcases z with z | z <;> rfl) h
  cases h

theorem impl_idsUnlike_x (a0 : (List dTxn)) (a1 : Int) : execFn G53 impl_idsUnlike_loops Try.f80 [.lst tTxn a0, .int .i64 a1] [] = impl_idsUnlike_d a0 a1 (fun (y : Bool) => some ⟨.ret, [.bool y], []⟩) := by kernel_rfl

theorem impl_idsUnlike_y (a0 : (List dTxn)) (a1 : Int) : execFn G53 impl_idsUnlike_loops Try.f80 [.lst tTxn a0, .int .i64 a1] [] = impl_idsUnlike_k a0 a1 (fun (y : Bool) => some ⟨.ret, [.bool y], []⟩) := (impl_idsUnlike_x a0 a1).trans (by rw [impl_idsUnlike_e])

theorem impl_idsUnlike_l : LoopsOk G53 ⟨0, 26, impl_idsUnlike_loops⟩ (Try.f80.body.getD .skip) :=
  loopsOk_of (ids := [0]) (by kernel_rfl) (by kernel_rfl) ⟨impl_idsUnlike_lo0, trivial⟩

theorem impl_idsUnlike_c : Contract Try.prog 80 impl_idsUnlike_g := by
  refine told G53_ok follows Try.func80 (c := Try.f80.body.getD .skip) (by kernel_rfl) ?_
  intro args s k r hk
  unfold impl_idsUnlike_g at hk
  rcases onPats_inv hk with ⟨p, q, rfl, rfl⟩ | hk
  · exact ⟨impl_idsUnlike_loops, impl_idsUnlike_q p.1 p.2.1, impl_idsUnlike_y p.1 p.2.1, impl_idsUnlike_l⟩
  cases hk

def G54 : Glob := G53.add 80 impl_idsUnlike_g

theorem G54_ok : GlobOk Try.prog G54 := G53_ok.add ⟨Try.f80, Try.func80, by kernel_rfl, by kernel_rfl⟩ impl_idsUnlike_c

/-! ### loop.example/g00327/impl.BaseOk -/

def impl_BaseOk_loops : Nat → Option LoopSpec
  | 0 => some ⟨[1, 2, 38, 39, 40], [], fun vals st k => onPats [.bp 0 0, .bool, .lst tVersion, .int .i64, .int .i64] [.box [.lst tVersion, .lst tTxn, .lst tTxn, .int .i64, .int .i64]] vals st (fun p q => loopK impl_BaseOk_b0 Fuel (p.2.1, p.2.2.1, p.2.2.2.1, p.2.2.2.2.1, q.1.1, q.1.2.1, q.1.2.2.1, q.1.2.2.2.1, q.1.2.2.2.2.1) (Sum.elim (fun z => k .ret [.bp 0 0, .bool z.1, .lst tVersion z.2.1, .int .i64 z.2.2.1, .int .i64 z.2.2.2.1] [.box [.lst tVersion z.2.2.2.2.1, .lst tTxn z.2.2.2.2.2.1, .lst tTxn z.2.2.2.2.2.2.1, .int .i64 z.2.2.2.2.2.2.2.1, .int .i64 z.2.2.2.2.2.2.2.2]]) (fun z => k (.exit 0) [.bp 0 0, .bool z.1, .lst tVersion z.2.1, .int .i64 z.2.2.1, .int .i64 z.2.2.2.1] [.box [.lst tVersion z.2.2.2.2.1, .lst tTxn z.2.2.2.2.2.1, .lst tTxn z.2.2.2.2.2.2.1, .int .i64 z.2.2.2.2.2.2.2.1, .int .i64 z.2.2.2.2.2.2.2.2]])))
      (none)⟩
  | 2 => some ⟨[1, 2, 51, 52, 53], [], fun vals st k => onPats [.bp 0 0, .bool, .lst tTxn, .int .i64, .int .i64] [.box [.lst tVersion, .lst tTxn, .lst tTxn, .int .i64, .int .i64]] vals st (fun p q => loopK impl_BaseOk_b2 Fuel (p.2.1, p.2.2.1, p.2.2.2.1, p.2.2.2.2.1, q.1.1, q.1.2.1, q.1.2.2.1, q.1.2.2.2.1, q.1.2.2.2.2.1) (Sum.elim (fun z => k .ret [.bp 0 0, .bool z.1, .lst tTxn z.2.1, .int .i64 z.2.2.1, .int .i64 z.2.2.2.1] [.box [.lst tVersion z.2.2.2.2.1, .lst tTxn z.2.2.2.2.2.1, .lst tTxn z.2.2.2.2.2.2.1, .int .i64 z.2.2.2.2.2.2.2.1, .int .i64 z.2.2.2.2.2.2.2.2]]) (fun z => k (.exit 2) [.bp 0 0, .bool z.1, .lst tTxn z.2.1, .int .i64 z.2.2.1, .int .i64 z.2.2.2.1] [.box [.lst tVersion z.2.2.2.2.1, .lst tTxn z.2.2.2.2.2.1, .lst tTxn z.2.2.2.2.2.2.1, .int .i64 z.2.2.2.2.2.2.2.1, .int .i64 z.2.2.2.2.2.2.2.2]])))
      (none)⟩
  | 4 => some ⟨[1, 2, 91, 92, 93], [], fun vals st k => onPats [.bp 0 0, .bool, .lst tTxn, .int .i64, .int .i64] [.box [.lst tVersion, .lst tTxn, .lst tTxn, .int .i64, .int .i64]] vals st (fun p q => loopK impl_BaseOk_b4 Fuel (p.2.1, p.2.2.1, p.2.2.2.1, p.2.2.2.2.1, q.1.1, q.1.2.1, q.1.2.2.1, q.1.2.2.2.1, q.1.2.2.2.2.1) (Sum.elim (fun z => k .ret [.bp 0 0, .bool z.1, .lst tTxn z.2.1, .int .i64 z.2.2.1, .int .i64 z.2.2.2.1] [.box [.lst tVersion z.2.2.2.2.1, .lst tTxn z.2.2.2.2.2.1, .lst tTxn z.2.2.2.2.2.2.1, .int .i64 z.2.2.2.2.2.2.2.1, .int .i64 z.2.2.2.2.2.2.2.2]]) (fun z => k (.exit 4) [.bp 0 0, .bool z.1, .lst tTxn z.2.1, .int .i64 z.2.2.1, .int .i64 z.2.2.2.1] [.box [.lst tVersion z.2.2.2.2.1, .lst tTxn z.2.2.2.2.2.1, .lst tTxn z.2.2.2.2.2.2.1, .int .i64 z.2.2.2.2.2.2.2.1, .int .i64 z.2.2.2.2.2.2.2.2]])))
      (none)⟩
  | 5000003 => some ⟨[1, 2], [], fun vals st k => onPats [.bp 0 0, .bool] [.box [.lst tVersion, .lst tTxn, .lst tTxn, .int .i64, .int .i64]] vals st (fun p q => impl_BaseOk_j5000003 (p.2.1, q.1.1, q.1.2.1, q.1.2.2.1, q.1.2.2.2.1, q.1.2.2.2.2.1) (fun z => k .ret [.bp 0 0, .bool z.1] [.box [.lst tVersion z.2.1, .lst tTxn z.2.2.1, .lst tTxn z.2.2.2.1, .int .i64 z.2.2.2.2.1, .int .i64 z.2.2.2.2.2]]))
      (none)⟩
  | 2000012 => some ⟨[0, 3, 4, 6, 8, 11, 12, 14, 16, 18, 20, 22, 24, 26, 28, 30, 32, 34, 36, 38, 40, 42, 44, 46, 48, 50, 52, 54, 56, 58, 60], [], fun _ _ _ => none⟩
  | 2000018 => some ⟨[0, 3, 4, 6, 8, 11, 12, 14, 16, 18, 20, 22, 24, 26, 28, 30, 32, 34, 36, 38, 40, 42, 44, 46, 48, 50, 52, 54, 56, 58, 60], [], fun _ _ _ => none⟩
  | 2000021 => some ⟨[0, 2, 4, 6, 12, 14, 9, 11, 17, 18], [], fun _ _ _ => none⟩
  | _ => none

def impl_BaseOk_v0 : (Bool × (List dVersion) × Int × Int × (List dVersion) × (List dTxn) × (List dTxn) × Int × Int) → List AV := (fun x => [.bp 0 0, .bool x.1, .lst tVersion x.2.1, .int .i64 x.2.2.1, .int .i64 x.2.2.2.1])
def impl_BaseOk_s0 : (Bool × (List dVersion) × Int × Int × (List dVersion) × (List dTxn) × (List dTxn) × Int × Int) → St := (fun x => [.box [.lst tVersion x.2.2.2.2.1, .lst tTxn x.2.2.2.2.2.1, .lst tTxn x.2.2.2.2.2.2.1, .int .i64 x.2.2.2.2.2.2.2.1, .int .i64 x.2.2.2.2.2.2.2.2]])
def impl_BaseOk_e0 : ((Bool × (List dVersion) × Int × Int × (List dVersion) × (List dTxn) × (List dTxn) × Int × Int) ⊕ (Bool × (List dVersion) × Int × Int × (List dVersion) × (List dTxn) × (List dTxn) × Int × Int)) → Out × List AV × St := (Sum.elim (fun z => (.ret, [.bp 0 0, .bool z.1, .lst tVersion z.2.1, .int .i64 z.2.2.1, .int .i64 z.2.2.2.1], [.box [.lst tVersion z.2.2.2.2.1, .lst tTxn z.2.2.2.2.2.1, .lst tTxn z.2.2.2.2.2.2.1, .int .i64 z.2.2.2.2.2.2.2.1, .int .i64 z.2.2.2.2.2.2.2.2]])) (fun z => ((.exit 0), [.bp 0 0, .bool z.1, .lst tVersion z.2.1, .int .i64 z.2.2.1, .int .i64 z.2.2.2.1], [.box [.lst tVersion z.2.2.2.2.1, .lst tTxn z.2.2.2.2.2.1, .lst tTxn z.2.2.2.2.2.2.1, .int .i64 z.2.2.2.2.2.2.2.1, .int .i64 z.2.2.2.2.2.2.2.2]])))

theorem impl_BaseOk_bx0 (x : (Bool × (List dVersion) × Int × Int × (List dVersion) × (List dTxn) × (List dTxn) × Int × Int)) : exec G54 ⟨0, 139, impl_BaseOk_loops⟩ (loopBody Try.f79 0) (bodyK ⟨0, 139, impl_BaseOk_loops⟩ [1, 2, 38, 39, 40] []) (setEs (deads 139) [1, 2, 38, 39, 40] (impl_BaseOk_v0 x)) (impl_BaseOk_s0 x) = impl_BaseOk_b0 x (Sum.elim (fun y => some ⟨.norm, impl_BaseOk_v0 y, impl_BaseOk_s0 y⟩) fun z => some ⟨(impl_BaseOk_e0 z).1, (impl_BaseOk_e0 z).2.1, (impl_BaseOk_e0 z).2.2⟩) := by
  kernel_rfl

theorem impl_BaseOk_lo0 : ∀ sp, (impl_BaseOk_loops 0) = some sp → LoopOk G54 ⟨0, 139, impl_BaseOk_loops⟩ sp (loopBody Try.f79 0) := by
  intro sp hsp vals st k r h
  cases hsp
  dsimp only at h
  rcases onPats_inv2 h with ⟨p, q, rfl, rfl, h⟩ | h
  · exact loop_runs2 impl_BaseOk_bp0 impl_BaseOk_v0 impl_BaseOk_s0 impl_BaseOk_e0 (fun z => by rcases z with z | z <;> (intro h; cases h)) impl_BaseOk_bx0 Fuel (p.2.1, p.2.2.1, p.2.2.2.1, p.2.2.2.2.1, q.1.1, q.1.2.1, q.1.2.2.1, q.1.2.2.2.1, q.1.2.2.2.2.1) _ k r (fun z => by rcases z with z | z <;> rfl) h
  cases h

def impl_BaseOk_v2 : (Bool × (List dTxn) × Int × Int × (List dVersion) × (List dTxn) × (List dTxn) × Int × Int) → List AV := (fun x => [.bp 0 0, .bool x.1, .lst tTxn x.2.1, .int .i64 x.2.2.1, .int .i64 x.2.2.2.1])
def impl_BaseOk_s2 : (Bool × (List dTxn) × Int × Int × (List dVersion) × (List dTxn) × (List dTxn) × Int × Int) → St := (fun x => [.box [.lst tVersion x.2.2.2.2.1, .lst tTxn x.2.2.2.2.2.1, .lst tTxn x.2.2.2.2.2.2.1, .int .i64 x.2.2.2.2.2.2.2.1, .int .i64 x.2.2.2.2.2.2.2.2]])
def impl_BaseOk_e2 : ((Bool × (List dTxn) × Int × Int × (List dVersion) × (List dTxn) × (List dTxn) × Int × Int) ⊕ (Bool × (List dTxn) × Int × Int × (List dVersion) × (List dTxn) × (List dTxn) × Int × Int)) → Out × List AV × St := (Sum.elim (fun z => (.ret, [.bp 0 0, .bool z.1, .lst tTxn z.2.1, .int .i64 z.2.2.1, .int .i64 z.2.2.2.1], [.box [.lst tVersion z.2.2.2.2.1, .lst tTxn z.2.2.2.2.2.1, .lst tTxn z.2.2.2.2.2.2.1, .int .i64 z.2.2.2.2.2.2.2.1, .int .i64 z.2.2.2.2.2.2.2.2]])) (fun z => ((.exit 2), [.bp 0 0, .bool z.1, .lst tTxn z.2.1, .int .i64 z.2.2.1, .int .i64 z.2.2.2.1], [.box [.lst tVersion z.2.2.2.2.1, .lst tTxn z.2.2.2.2.2.1, .lst tTxn z.2.2.2.2.2.2.1, .int .i64 z.2.2.2.2.2.2.2.1, .int .i64 z.2.2.2.2.2.2.2.2]])))

theorem impl_BaseOk_bx2 (x : (Bool × (List dTxn) × Int × Int × (List dVersion) × (List dTxn) × (List dTxn) × Int × Int)) : exec G54 ⟨0, 139, impl_BaseOk_loops⟩ (loopBody Try.f79 2) (bodyK ⟨0, 139, impl_BaseOk_loops⟩ [1, 2, 51, 52, 53] []) (setEs (deads 139) [1, 2, 51, 52, 53] (impl_BaseOk_v2 x)) (impl_BaseOk_s2 x) = impl_BaseOk_b2 x (Sum.elim (fun y => some ⟨.norm, impl_BaseOk_v2 y, impl_BaseOk_s2 y⟩) fun z => some ⟨(impl_BaseOk_e2 z).1, (impl_BaseOk_e2 z).2.1, (impl_BaseOk_e2 z).2.2⟩) := by
  kernel_rfl

theorem impl_BaseOk_lo2 : ∀ sp, (impl_BaseOk_loops 2) = some sp → LoopOk G54 ⟨0, 139, impl_BaseOk_loops⟩ sp (loopBody Try.f79 2) := by
  intro sp hsp vals st k r h
  cases hsp
  dsimp only at h
  rcases onPats_inv2 h with ⟨p, q, rfl, rfl, h⟩ | h
  · exact loop_runs2 impl_BaseOk_bp2 impl_BaseOk_v2 impl_BaseOk_s2 impl_BaseOk_e2 (fun z => by rcases z with z | z <;> (intro h; cases h)) impl_BaseOk_bx2 Fuel (p.2.1, p.2.2.1, p.2.2.2.1, p.2.2.2.2.1, q.1.1, q.1.2.1, q.1.2.2.1, q.1.2.2.2.1, q.1.2.2.2.2.1) _ k r (fun z => by rcases z with z | z <;> rfl) h
  cases h

def impl_BaseOk_v4 : (Bool × (List dTxn) × Int × Int × (List dVersion) × (List dTxn) × (List dTxn) × Int × Int) → List AV := (fun x => [.bp 0 0, .bool x.1, .lst tTxn x.2.1, .int .i64 x.2.2.1, .int .i64 x.2.2.2.1])
def impl_BaseOk_s4 : (Bool × (List dTxn) × Int × Int × (List dVersion) × (List dTxn) × (List dTxn) × Int × Int) → St := (fun x => [.box [.lst tVersion x.2.2.2.2.1, .lst tTxn x.2.2.2.2.2.1, .lst tTxn x.2.2.2.2.2.2.1, .int .i64 x.2.2.2.2.2.2.2.1, .int .i64 x.2.2.2.2.2.2.2.2]])
def impl_BaseOk_e4 : ((Bool × (List dTxn) × Int × Int × (List dVersion) × (List dTxn) × (List dTxn) × Int × Int) ⊕ (Bool × (List dTxn) × Int × Int × (List dVersion) × (List dTxn) × (List dTxn) × Int × Int)) → Out × List AV × St := (Sum.elim (fun z => (.ret, [.bp 0 0, .bool z.1, .lst tTxn z.2.1, .int .i64 z.2.2.1, .int .i64 z.2.2.2.1], [.box [.lst tVersion z.2.2.2.2.1, .lst tTxn z.2.2.2.2.2.1, .lst tTxn z.2.2.2.2.2.2.1, .int .i64 z.2.2.2.2.2.2.2.1, .int .i64 z.2.2.2.2.2.2.2.2]])) (fun z => ((.exit 4), [.bp 0 0, .bool z.1, .lst tTxn z.2.1, .int .i64 z.2.2.1, .int .i64 z.2.2.2.1], [.box [.lst tVersion z.2.2.2.2.1, .lst tTxn z.2.2.2.2.2.1, .lst tTxn z.2.2.2.2.2.2.1, .int .i64 z.2.2.2.2.2.2.2.1, .int .i64 z.2.2.2.2.2.2.2.2]])))

theorem impl_BaseOk_bx4 (x : (Bool × (List dTxn) × Int × Int × (List dVersion) × (List dTxn) × (List dTxn) × Int × Int)) : exec G54 ⟨0, 139, impl_BaseOk_loops⟩ (loopBody Try.f79 4) (bodyK ⟨0, 139, impl_BaseOk_loops⟩ [1, 2, 91, 92, 93] []) (setEs (deads 139) [1, 2, 91, 92, 93] (impl_BaseOk_v4 x)) (impl_BaseOk_s4 x) = impl_BaseOk_b4 x (Sum.elim (fun y => some ⟨.norm, impl_BaseOk_v4 y, impl_BaseOk_s4 y⟩) fun z => some ⟨(impl_BaseOk_e4 z).1, (impl_BaseOk_e4 z).2.1, (impl_BaseOk_e4 z).2.2⟩) := by
  kernel_rfl

theorem impl_BaseOk_lo4 : ∀ sp, (impl_BaseOk_loops 4) = some sp → LoopOk G54 ⟨0, 139, impl_BaseOk_loops⟩ sp (loopBody Try.f79 4) := by
  intro sp hsp vals st k r h
  cases hsp
  dsimp only at h
  rcases onPats_inv2 h with ⟨p, q, rfl, rfl, h⟩ | h
  · exact loop_runs2 impl_BaseOk_bp4 impl_BaseOk_v4 impl_BaseOk_s4 impl_BaseOk_e4 (fun z => by rcases z with z | z <;> (intro h; cases h)) impl_BaseOk_bx4 Fuel (p.2.1, p.2.2.1, p.2.2.2.1, p.2.2.2.2.1, q.1.1, q.1.2.1, q.1.2.2.1, q.1.2.2.2.1, q.1.2.2.2.2.1) _ k r (fun z => by rcases z with z | z <;> rfl) h
  cases h

def impl_BaseOk_jv5000003 : (Bool × (List dVersion) × (List dTxn) × (List dTxn) × Int × Int) → List AV := (fun x => [.bp 0 0, .bool x.1])
def impl_BaseOk_js5000003 : (Bool × (List dVersion) × (List dTxn) × (List dTxn) × Int × Int) → St := (fun x => [.box [.lst tVersion x.2.1, .lst tTxn x.2.2.1, .lst tTxn x.2.2.2.1, .int .i64 x.2.2.2.2.1, .int .i64 x.2.2.2.2.2]])
def impl_BaseOk_je5000003 : (Bool × (List dVersion) × (List dTxn) × (List dTxn) × Int × Int) → Out × List AV × St := (fun z => (.ret, [.bp 0 0, .bool z.1], [.box [.lst tVersion z.2.1, .lst tTxn z.2.2.1, .lst tTxn z.2.2.2.1, .int .i64 z.2.2.2.2.1, .int .i64 z.2.2.2.2.2]]))

theorem impl_BaseOk_jx5000003 (x : (Bool × (List dVersion) × (List dTxn) × (List dTxn) × Int × Int)) : exec G54 ⟨0, 139, impl_BaseOk_loops⟩ (loopBody Try.f79 5000003) (bodyK ⟨0, 139, impl_BaseOk_loops⟩ [1, 2] []) (setEs (deads 139) [1, 2] (impl_BaseOk_jv5000003 x)) (impl_BaseOk_js5000003 x) = impl_BaseOk_j5000003 x (fun z => some ⟨(impl_BaseOk_je5000003 z).1, (impl_BaseOk_je5000003 z).2.1, (impl_BaseOk_je5000003 z).2.2⟩) := by
  kernel_rfl

theorem impl_BaseOk_lo5000003 : ∀ sp, (impl_BaseOk_loops 5000003) = some sp → CutOk G54 ⟨0, 139, impl_BaseOk_loops⟩ sp (loopBody Try.f79 5000003) := by
  intro sp hsp vals st k r h
  cases hsp
  dsimp only at h
  rcases onPats_inv2 h with ⟨p, q, rfl, rfl, h⟩ | h
  · exact cut_runs impl_BaseOk_jp5000003 impl_BaseOk_jv5000003 impl_BaseOk_js5000003 impl_BaseOk_je5000003 impl_BaseOk_jx5000003 (p.2.1, q.1.1, q.1.2.1, q.1.2.2.1, q.1.2.2.2.1, q.1.2.2.2.2.1) _ k r (fun z => rfl) h
  cases h

theorem impl_BaseOk_x (a0 : (List dVersion)) (a1 : (List dTxn)) (a2 : (List dTxn)) (a3 : Int) (a4 : Int) : execFn G54 impl_BaseOk_loops Try.f79 [.agg [.lst tVersion a0, .lst tTxn a1, .lst tTxn a2, .int .i64 a3, .int .i64 a4]] [] = impl_BaseOk_d (a0, (a1, (a2, (a3, a4)))) (fun (y : Bool) => some ⟨.ret, [.bool y], []⟩) := by kernel_rfl

theorem impl_BaseOk_y (a0 : (List dVersion)) (a1 : (List dTxn)) (a2 : (List dTxn)) (a3 : Int) (a4 : Int) : execFn G54 impl_BaseOk_loops Try.f79 [.agg [.lst tVersion a0, .lst tTxn a1, .lst tTxn a2, .int .i64 a3, .int .i64 a4]] [] = impl_BaseOk_k (a0, (a1, (a2, (a3, a4)))) (fun (y : Bool) => some ⟨.ret, [.bool y], []⟩) := (impl_BaseOk_x a0 a1 a2 a3 a4).trans (by rw [impl_BaseOk_e])

theorem impl_BaseOk_l : LoopsOk G54 ⟨0, 139, impl_BaseOk_loops⟩ (Try.f79.body.getD .skip) :=
  loopsOk_of (ids := [0, 2, 4, 5000003]) (by kernel_rfl) (by kernel_rfl) ⟨impl_BaseOk_lo0, ⟨impl_BaseOk_lo2, ⟨impl_BaseOk_lo4, ⟨impl_BaseOk_lo5000003, trivial⟩⟩⟩⟩

theorem impl_BaseOk_c : Contract Try.prog 79 impl_BaseOk_g := by
  refine told G54_ok follows Try.func79 (c := Try.f79.body.getD .skip) (by kernel_rfl) ?_
  intro args s k r hk
  unfold impl_BaseOk_g at hk
  rcases onPats_inv hk with ⟨p, q, rfl, rfl⟩ | hk
  · exact ⟨impl_BaseOk_loops, impl_BaseOk_q p.1.1 p.1.2.1 p.1.2.2.1 p.1.2.2.2.1 p.1.2.2.2.2.1, impl_BaseOk_y p.1.1 p.1.2.1 p.1.2.2.1 p.1.2.2.2.1 p.1.2.2.2.2.1, impl_BaseOk_l⟩
  cases hk

def G55 : Glob := G54.add 79 impl_BaseOk_g

theorem G55_ok : GlobOk Try.prog G55 := G54_ok.add ⟨Try.f79, Try.func79, by kernel_rfl, by kernel_rfl⟩ impl_BaseOk_c

/-! ### loop.example/g00327/impl.RecordOk -/

def impl_RecordOk_loops : Nat → Option LoopSpec
  | 5000012 => some ⟨[1, 2, 3, 4, 5], [], fun vals st k => onPats [.bp 0 0, .bool, .bool, .bool, .bool] [.box [.int .i64, .int .i64, .int .i64, .int .i64, .int .i64, .lst tRange, .lst tWrite, .bool, .str, .str, .bool, .lst tVersion, .lst tTxn, .lst tTxn, .int .i64, .int .i64]] vals st (fun p q => impl_RecordOk_j5000012 (p.2.1, p.2.2.1, p.2.2.2.1, p.2.2.2.2.1, q.1.1, q.1.2.1, q.1.2.2.1, q.1.2.2.2.1, q.1.2.2.2.2.1, q.1.2.2.2.2.2.1, q.1.2.2.2.2.2.2.1, q.1.2.2.2.2.2.2.2.1, q.1.2.2.2.2.2.2.2.2.1, q.1.2.2.2.2.2.2.2.2.2.1, q.1.2.2.2.2.2.2.2.2.2.2.1, q.1.2.2.2.2.2.2.2.2.2.2.2.1, q.1.2.2.2.2.2.2.2.2.2.2.2.2.1, q.1.2.2.2.2.2.2.2.2.2.2.2.2.2.1, q.1.2.2.2.2.2.2.2.2.2.2.2.2.2.2.1, q.1.2.2.2.2.2.2.2.2.2.2.2.2.2.2.2.1) (fun z => k .ret [.bp 0 0, .bool z.1, .bool z.2.1, .bool z.2.2.1, .bool z.2.2.2.1] [.box [.int .i64 z.2.2.2.2.1, .int .i64 z.2.2.2.2.2.1, .int .i64 z.2.2.2.2.2.2.1, .int .i64 z.2.2.2.2.2.2.2.1, .int .i64 z.2.2.2.2.2.2.2.2.1, .lst tRange z.2.2.2.2.2.2.2.2.2.1, .lst tWrite z.2.2.2.2.2.2.2.2.2.2.1, .bool z.2.2.2.2.2.2.2.2.2.2.2.1, .str z.2.2.2.2.2.2.2.2.2.2.2.2.1, .str z.2.2.2.2.2.2.2.2.2.2.2.2.2.1, .bool z.2.2.2.2.2.2.2.2.2.2.2.2.2.2.1, .lst tVersion z.2.2.2.2.2.2.2.2.2.2.2.2.2.2.2.1, .lst tTxn z.2.2.2.2.2.2.2.2.2.2.2.2.2.2.2.2.1, .lst tTxn z.2.2.2.2.2.2.2.2.2.2.2.2.2.2.2.2.2.1, .int .i64 z.2.2.2.2.2.2.2.2.2.2.2.2.2.2.2.2.2.2.1, .int .i64 z.2.2.2.2.2.2.2.2.2.2.2.2.2.2.2.2.2.2.2]]))
      (none)⟩
  | 2000001 => some ⟨[0, 2, 6, 8, 10, 12, 14, 5, 17, 18, 20, 22], [], fun _ _ _ => none⟩
  | _ => none

def impl_RecordOk_jv5000012 : (Bool × Bool × Bool × Bool × Int × Int × Int × Int × Int × (List dRange) × (List dWrite) × Bool × ByteArray × ByteArray × Bool × (List dVersion) × (List dTxn) × (List dTxn) × Int × Int) → List AV := (fun x => [.bp 0 0, .bool x.1, .bool x.2.1, .bool x.2.2.1, .bool x.2.2.2.1])
def impl_RecordOk_js5000012 : (Bool × Bool × Bool × Bool × Int × Int × Int × Int × Int × (List dRange) × (List dWrite) × Bool × ByteArray × ByteArray × Bool × (List dVersion) × (List dTxn) × (List dTxn) × Int × Int) → St := (fun x => [.box [.int .i64 x.2.2.2.2.1, .int .i64 x.2.2.2.2.2.1, .int .i64 x.2.2.2.2.2.2.1, .int .i64 x.2.2.2.2.2.2.2.1, .int .i64 x.2.2.2.2.2.2.2.2.1, .lst tRange x.2.2.2.2.2.2.2.2.2.1, .lst tWrite x.2.2.2.2.2.2.2.2.2.2.1, .bool x.2.2.2.2.2.2.2.2.2.2.2.1, .str x.2.2.2.2.2.2.2.2.2.2.2.2.1, .str x.2.2.2.2.2.2.2.2.2.2.2.2.2.1, .bool x.2.2.2.2.2.2.2.2.2.2.2.2.2.2.1, .lst tVersion x.2.2.2.2.2.2.2.2.2.2.2.2.2.2.2.1, .lst tTxn x.2.2.2.2.2.2.2.2.2.2.2.2.2.2.2.2.1, .lst tTxn x.2.2.2.2.2.2.2.2.2.2.2.2.2.2.2.2.2.1, .int .i64 x.2.2.2.2.2.2.2.2.2.2.2.2.2.2.2.2.2.2.1, .int .i64 x.2.2.2.2.2.2.2.2.2.2.2.2.2.2.2.2.2.2.2]])
def impl_RecordOk_je5000012 : (Bool × Bool × Bool × Bool × Int × Int × Int × Int × Int × (List dRange) × (List dWrite) × Bool × ByteArray × ByteArray × Bool × (List dVersion) × (List dTxn) × (List dTxn) × Int × Int) → Out × List AV × St := (fun z => (.ret, [.bp 0 0, .bool z.1, .bool z.2.1, .bool z.2.2.1, .bool z.2.2.2.1], [.box [.int .i64 z.2.2.2.2.1, .int .i64 z.2.2.2.2.2.1, .int .i64 z.2.2.2.2.2.2.1, .int .i64 z.2.2.2.2.2.2.2.1, .int .i64 z.2.2.2.2.2.2.2.2.1, .lst tRange z.2.2.2.2.2.2.2.2.2.1, .lst tWrite z.2.2.2.2.2.2.2.2.2.2.1, .bool z.2.2.2.2.2.2.2.2.2.2.2.1, .str z.2.2.2.2.2.2.2.2.2.2.2.2.1, .str z.2.2.2.2.2.2.2.2.2.2.2.2.2.1, .bool z.2.2.2.2.2.2.2.2.2.2.2.2.2.2.1, .lst tVersion z.2.2.2.2.2.2.2.2.2.2.2.2.2.2.2.1, .lst tTxn z.2.2.2.2.2.2.2.2.2.2.2.2.2.2.2.2.1, .lst tTxn z.2.2.2.2.2.2.2.2.2.2.2.2.2.2.2.2.2.1, .int .i64 z.2.2.2.2.2.2.2.2.2.2.2.2.2.2.2.2.2.2.1, .int .i64 z.2.2.2.2.2.2.2.2.2.2.2.2.2.2.2.2.2.2.2]]))

theorem impl_RecordOk_jx5000012 (x : (Bool × Bool × Bool × Bool × Int × Int × Int × Int × Int × (List dRange) × (List dWrite) × Bool × ByteArray × ByteArray × Bool × (List dVersion) × (List dTxn) × (List dTxn) × Int × Int)) : exec G55 ⟨0, 64, impl_RecordOk_loops⟩ (loopBody Try.f40 5000012) (bodyK ⟨0, 64, impl_RecordOk_loops⟩ [1, 2, 3, 4, 5] []) (setEs (deads 64) [1, 2, 3, 4, 5] (impl_RecordOk_jv5000012 x)) (impl_RecordOk_js5000012 x) = impl_RecordOk_j5000012 x (fun z => some ⟨(impl_RecordOk_je5000012 z).1, (impl_RecordOk_je5000012 z).2.1, (impl_RecordOk_je5000012 z).2.2⟩) := by
  kernel_rfl

theorem impl_RecordOk_lo5000012 : ∀ sp, (impl_RecordOk_loops 5000012) = some sp → CutOk G55 ⟨0, 64, impl_RecordOk_loops⟩ sp (loopBody Try.f40 5000012) := by
  intro sp hsp vals st k r h
  cases hsp
  dsimp only at h
  rcases onPats_inv2 h with ⟨p, q, rfl, rfl, h⟩ | h
  · exact cut_runs impl_RecordOk_jp5000012 impl_RecordOk_jv5000012 impl_RecordOk_js5000012 impl_RecordOk_je5000012 impl_RecordOk_jx5000012 (p.2.1, p.2.2.1, p.2.2.2.1, p.2.2.2.2.1, q.1.1, q.1.2.1, q.1.2.2.1, q.1.2.2.2.1, q.1.2.2.2.2.1, q.1.2.2.2.2.2.1, q.1.2.2.2.2.2.2.1, q.1.2.2.2.2.2.2.2.1, q.1.2.2.2.2.2.2.2.2.1, q.1.2.2.2.2.2.2.2.2.2.1, q.1.2.2.2.2.2.2.2.2.2.2.1, q.1.2.2.2.2.2.2.2.2.2.2.2.1, q.1.2.2.2.2.2.2.2.2.2.2.2.2.1, q.1.2.2.2.2.2.2.2.2.2.2.2.2.2.1, q.1.2.2.2.2.2.2.2.2.2.2.2.2.2.2.1, q.1.2.2.2.2.2.2.2.2.2.2.2.2.2.2.2.1) _ k r (fun z => rfl) h
  cases h

theorem impl_RecordOk_x (a0 : Int) (a1 : Int) (a2 : Int) (a3 : Int) (a4 : Int) (a5 : (List dRange)) (a6 : (List dWrite)) (a7 : Bool) (a8 : ByteArray) (a9 : ByteArray) (a10 : Bool) (a11 : (List dVersion)) (a12 : (List dTxn)) (a13 : (List dTxn)) (a14 : Int) (a15 : Int) : execFn G55 impl_RecordOk_loops Try.f40 [.agg [.int .i64 a0, .int .i64 a1, .int .i64 a2, .int .i64 a3, .int .i64 a4, .lst tRange a5, .lst tWrite a6, .bool a7, .str a8, .str a9, .bool a10, .lst tVersion a11, .lst tTxn a12, .lst tTxn a13, .int .i64 a14, .int .i64 a15]] [] = impl_RecordOk_d (a0, ((a1, (a2, (a3, (a4, (a5, (a6, (a7, a8))))))), (a9, (a10, (a11, (a12, (a13, (a14, a15)))))))) (fun (y : Bool) => some ⟨.ret, [.bool y], []⟩) := by kernel_rfl

theorem impl_RecordOk_y (a0 : Int) (a1 : Int) (a2 : Int) (a3 : Int) (a4 : Int) (a5 : (List dRange)) (a6 : (List dWrite)) (a7 : Bool) (a8 : ByteArray) (a9 : ByteArray) (a10 : Bool) (a11 : (List dVersion)) (a12 : (List dTxn)) (a13 : (List dTxn)) (a14 : Int) (a15 : Int) : execFn G55 impl_RecordOk_loops Try.f40 [.agg [.int .i64 a0, .int .i64 a1, .int .i64 a2, .int .i64 a3, .int .i64 a4, .lst tRange a5, .lst tWrite a6, .bool a7, .str a8, .str a9, .bool a10, .lst tVersion a11, .lst tTxn a12, .lst tTxn a13, .int .i64 a14, .int .i64 a15]] [] = impl_RecordOk_k (a0, ((a1, (a2, (a3, (a4, (a5, (a6, (a7, a8))))))), (a9, (a10, (a11, (a12, (a13, (a14, a15)))))))) (fun (y : Bool) => some ⟨.ret, [.bool y], []⟩) := (impl_RecordOk_x a0 a1 a2 a3 a4 a5 a6 a7 a8 a9 a10 a11 a12 a13 a14 a15).trans (by rw [impl_RecordOk_e])

theorem impl_RecordOk_l : LoopsOk G55 ⟨0, 64, impl_RecordOk_loops⟩ (Try.f40.body.getD .skip) :=
  loopsOk_of (ids := [5000012]) (by kernel_rfl) (by kernel_rfl) ⟨impl_RecordOk_lo5000012, trivial⟩

theorem impl_RecordOk_c : Contract Try.prog 40 impl_RecordOk_g := by
  refine told G55_ok follows Try.func40 (c := Try.f40.body.getD .skip) (by kernel_rfl) ?_
  intro args s k r hk
  unfold impl_RecordOk_g at hk
  rcases onPats_inv hk with ⟨p, q, rfl, rfl⟩ | hk
  · exact ⟨impl_RecordOk_loops, impl_RecordOk_q p.1.1 p.1.2.1 p.1.2.2.1 p.1.2.2.2.1 p.1.2.2.2.2.1 p.1.2.2.2.2.2.1 p.1.2.2.2.2.2.2.1 p.1.2.2.2.2.2.2.2.1 p.1.2.2.2.2.2.2.2.2.1 p.1.2.2.2.2.2.2.2.2.2.1 p.1.2.2.2.2.2.2.2.2.2.2.1 p.1.2.2.2.2.2.2.2.2.2.2.2.1 p.1.2.2.2.2.2.2.2.2.2.2.2.2.1 p.1.2.2.2.2.2.2.2.2.2.2.2.2.2.1 p.1.2.2.2.2.2.2.2.2.2.2.2.2.2.2.1 p.1.2.2.2.2.2.2.2.2.2.2.2.2.2.2.2.1, impl_RecordOk_y p.1.1 p.1.2.1 p.1.2.2.1 p.1.2.2.2.1 p.1.2.2.2.2.1 p.1.2.2.2.2.2.1 p.1.2.2.2.2.2.2.1 p.1.2.2.2.2.2.2.2.1 p.1.2.2.2.2.2.2.2.2.1 p.1.2.2.2.2.2.2.2.2.2.1 p.1.2.2.2.2.2.2.2.2.2.2.1 p.1.2.2.2.2.2.2.2.2.2.2.2.1 p.1.2.2.2.2.2.2.2.2.2.2.2.2.1 p.1.2.2.2.2.2.2.2.2.2.2.2.2.2.1 p.1.2.2.2.2.2.2.2.2.2.2.2.2.2.2.1 p.1.2.2.2.2.2.2.2.2.2.2.2.2.2.2.2.1, impl_RecordOk_l⟩
  cases hk

def G56 : Glob := G55.add 40 impl_RecordOk_g

theorem G56_ok : GlobOk Try.prog G56 := G55_ok.add ⟨Try.f40, Try.func40, by kernel_rfl, by kernel_rfl⟩ impl_RecordOk_c

/-! ### loop.example/g00327/laws.eqRange -/

def laws_eqRange_loops : Nat → Option LoopSpec
  | _ => none

theorem laws_eqRange_x (a0 : ByteArray) (a1 : ByteArray) (a2 : ByteArray) (a3 : ByteArray) : execFn G56 laws_eqRange_loops Try.f250 [.agg [.str a0, .str a1], .agg [.str a2, .str a3]] [] = laws_eqRange_d (a0, a1) (a2, a3) (fun (y : Bool) => some ⟨.ret, [.bool y], []⟩) := by kernel_rfl

theorem laws_eqRange_y (a0 : ByteArray) (a1 : ByteArray) (a2 : ByteArray) (a3 : ByteArray) : execFn G56 laws_eqRange_loops Try.f250 [.agg [.str a0, .str a1], .agg [.str a2, .str a3]] [] = laws_eqRange_k (a0, a1) (a2, a3) (fun (y : Bool) => some ⟨.ret, [.bool y], []⟩) := (laws_eqRange_x a0 a1 a2 a3).trans (by rw [laws_eqRange_e])

theorem laws_eqRange_l : LoopsOk G56 ⟨0, 15, laws_eqRange_loops⟩ (Try.f250.body.getD .skip) :=
  loopsOk_of (ids := []) (by kernel_rfl) (by kernel_rfl) trivial

theorem laws_eqRange_c : Contract Try.prog 250 laws_eqRange_g := by
  refine told G56_ok follows Try.func250 (c := Try.f250.body.getD .skip) (by kernel_rfl) ?_
  intro args s k r hk
  unfold laws_eqRange_g at hk
  rcases onPats_inv hk with ⟨p, q, rfl, rfl⟩ | hk
  · exact ⟨laws_eqRange_loops, laws_eqRange_q p.1.1 p.1.2.1 p.2.1.1 p.2.1.2.1, laws_eqRange_y p.1.1 p.1.2.1 p.2.1.1 p.2.1.2.1, laws_eqRange_l⟩
  cases hk

def G57 : Glob := G56.add 250 laws_eqRange_g

theorem G57_ok : GlobOk Try.prog G57 := G56_ok.add ⟨Try.f250, Try.func250, by kernel_rfl, by kernel_rfl⟩ laws_eqRange_c

/-! ### loop.example/g00327/laws.eqRangeS -/

def laws_eqRangeS_loops : Nat → Option LoopSpec
  | 0 => some ⟨[0, 1, 4, 5], [], fun vals st k => onPats [.lst tRange, .lst tRange, .bool, .int .i64] [] vals st (fun p q => loopK laws_eqRangeS_b0 Fuel (p.1, p.2.1, p.2.2.1, p.2.2.2.1) (Sum.elim (fun z => k .ret [.lst tRange z.1, .lst tRange z.2.1, .bool z.2.2.1, .int .i64 z.2.2.2] []) (fun z => k (.exit 0) [.lst tRange z.1, .lst tRange z.2.1, .bool z.2.2.1, .int .i64 z.2.2.2] [])))
      (none)⟩
  | 2000006 => some ⟨[0, 2, 4, 6, 8, 10, 12, 14, 16, 18], [], fun _ _ _ => none⟩
  | _ => none

def laws_eqRangeS_v0 : ((List dRange) × (List dRange) × Bool × Int) → List AV := (fun x => [.lst tRange x.1, .lst tRange x.2.1, .bool x.2.2.1, .int .i64 x.2.2.2])
def laws_eqRangeS_s0 : ((List dRange) × (List dRange) × Bool × Int) → St := (fun x => [])
def laws_eqRangeS_e0 : (((List dRange) × (List dRange) × Bool × Int) ⊕ ((List dRange) × (List dRange) × Bool × Int)) → Out × List AV × St := (Sum.elim (fun z => (.ret, [.lst tRange z.1, .lst tRange z.2.1, .bool z.2.2.1, .int .i64 z.2.2.2], [])) (fun z => ((.exit 0), [.lst tRange z.1, .lst tRange z.2.1, .bool z.2.2.1, .int .i64 z.2.2.2], [])))

theorem laws_eqRangeS_bx0 (x : ((List dRange) × (List dRange) × Bool × Int)) : exec G57 ⟨0, 27, laws_eqRangeS_loops⟩ (loopBody Try.f184 0) (bodyK ⟨0, 27, laws_eqRangeS_loops⟩ [0, 1, 4, 5] []) (setEs (deads 27) [0, 1, 4, 5] (laws_eqRangeS_v0 x)) (laws_eqRangeS_s0 x) = laws_eqRangeS_b0 x (Sum.elim (fun y => some ⟨.norm, laws_eqRangeS_v0 y, laws_eqRangeS_s0 y⟩) fun z => some ⟨(laws_eqRangeS_e0 z).1, (laws_eqRangeS_e0 z).2.1, (laws_eqRangeS_e0 z).2.2⟩) := by
  kernel_rfl

theorem laws_eqRangeS_lo0 : ∀ sp, (laws_eqRangeS_loops 0) = some sp → LoopOk G57 ⟨0, 27, laws_eqRangeS_loops⟩ sp (loopBody Try.f184 0) := by
  intro sp hsp vals st k r h
  cases hsp
  dsimp only at h
  rcases onPats_inv2 h with ⟨p, q, rfl, rfl, h⟩ | h
  · exact loop_runs2 laws_eqRangeS_bp0 laws_eqRangeS_v0 laws_eqRangeS_s0 laws_eqRangeS_e0 (fun z => by rcases z with z | z <;> (intro h; cases h)) laws_eqRangeS_bx0 Fuel (p.1, p.2.1, p.2.2.1, p.2.2.2.1) _ k r (fun z => by rcases z with z | z <;> rfl) h
  cases h

theorem laws_eqRangeS_x (a0 : (List dRange)) (a1 : (List dRange)) : execFn G57 laws_eqRangeS_loops Try.f184 [.lst tRange a0, .lst tRange a1] [] = laws_eqRangeS_d a0 a1 (fun (y : Bool) => some ⟨.ret, [.bool y], []⟩) := by kernel_rfl

theorem laws_eqRangeS_y (a0 : (List dRange)) (a1 : (List dRange)) : execFn G57 laws_eqRangeS_loops Try.f184 [.lst tRange a0, .lst tRange a1] [] = laws_eqRangeS_k a0 a1 (fun (y : Bool) => some ⟨.ret, [.bool y], []⟩) := (laws_eqRangeS_x a0 a1).trans (by rw [laws_eqRangeS_e])

theorem laws_eqRangeS_l : LoopsOk G57 ⟨0, 27, laws_eqRangeS_loops⟩ (Try.f184.body.getD .skip) :=
  loopsOk_of (ids := [0]) (by kernel_rfl) (by kernel_rfl) ⟨laws_eqRangeS_lo0, trivial⟩

theorem laws_eqRangeS_c : Contract Try.prog 184 laws_eqRangeS_g := by
  refine told G57_ok follows Try.func184 (c := Try.f184.body.getD .skip) (by kernel_rfl) ?_
  intro args s k r hk
  unfold laws_eqRangeS_g at hk
  rcases onPats_inv hk with ⟨p, q, rfl, rfl⟩ | hk
  · exact ⟨laws_eqRangeS_loops, laws_eqRangeS_q p.1 p.2.1, laws_eqRangeS_y p.1 p.2.1, laws_eqRangeS_l⟩
  cases hk

def G58 : Glob := G57.add 184 laws_eqRangeS_g

theorem G58_ok : GlobOk Try.prog G58 := G57_ok.add ⟨Try.f184, Try.func184, by kernel_rfl, by kernel_rfl⟩ laws_eqRangeS_c

/-! ### loop.example/g00327/laws.eqWrite -/

def laws_eqWrite_loops : Nat → Option LoopSpec
  | _ => none

theorem laws_eqWrite_x (a0 : ByteArray) (a1 : ByteArray) (a2 : Bool) (a3 : ByteArray) (a4 : ByteArray) (a5 : Bool) : execFn G58 laws_eqWrite_loops Try.f251 [.agg [.str a0, .str a1, .bool a2], .agg [.str a3, .str a4, .bool a5]] [] = laws_eqWrite_d (a0, (a1, a2)) (a3, (a4, a5)) (fun (y : Bool) => some ⟨.ret, [.bool y], []⟩) := by kernel_rfl

theorem laws_eqWrite_y (a0 : ByteArray) (a1 : ByteArray) (a2 : Bool) (a3 : ByteArray) (a4 : ByteArray) (a5 : Bool) : execFn G58 laws_eqWrite_loops Try.f251 [.agg [.str a0, .str a1, .bool a2], .agg [.str a3, .str a4, .bool a5]] [] = laws_eqWrite_k (a0, (a1, a2)) (a3, (a4, a5)) (fun (y : Bool) => some ⟨.ret, [.bool y], []⟩) := (laws_eqWrite_x a0 a1 a2 a3 a4 a5).trans (by rw [laws_eqWrite_e])

theorem laws_eqWrite_l : LoopsOk G58 ⟨0, 20, laws_eqWrite_loops⟩ (Try.f251.body.getD .skip) :=
  loopsOk_of (ids := []) (by kernel_rfl) (by kernel_rfl) trivial

theorem laws_eqWrite_c : Contract Try.prog 251 laws_eqWrite_g := by
  refine told G58_ok follows Try.func251 (c := Try.f251.body.getD .skip) (by kernel_rfl) ?_
  intro args s k r hk
  unfold laws_eqWrite_g at hk
  rcases onPats_inv hk with ⟨p, q, rfl, rfl⟩ | hk
  · exact ⟨laws_eqWrite_loops, laws_eqWrite_q p.1.1 p.1.2.1 p.1.2.2.1 p.2.1.1 p.2.1.2.1 p.2.1.2.2.1, laws_eqWrite_y p.1.1 p.1.2.1 p.1.2.2.1 p.2.1.1 p.2.1.2.1 p.2.1.2.2.1, laws_eqWrite_l⟩
  cases hk

def G59 : Glob := G58.add 251 laws_eqWrite_g

theorem G59_ok : GlobOk Try.prog G59 := G58_ok.add ⟨Try.f251, Try.func251, by kernel_rfl, by kernel_rfl⟩ laws_eqWrite_c

/-! ### loop.example/g00327/laws.eqWriteS -/

def laws_eqWriteS_loops : Nat → Option LoopSpec
  | 0 => some ⟨[0, 1, 4, 5], [], fun vals st k => onPats [.lst tWrite, .lst tWrite, .bool, .int .i64] [] vals st (fun p q => loopK laws_eqWriteS_b0 Fuel (p.1, p.2.1, p.2.2.1, p.2.2.2.1) (Sum.elim (fun z => k .ret [.lst tWrite z.1, .lst tWrite z.2.1, .bool z.2.2.1, .int .i64 z.2.2.2] []) (fun z => k (.exit 0) [.lst tWrite z.1, .lst tWrite z.2.1, .bool z.2.2.1, .int .i64 z.2.2.2] [])))
      (none)⟩
  | 2000006 => some ⟨[0, 2, 4, 6, 8, 10, 12, 14, 16, 18], [], fun _ _ _ => none⟩
  | _ => none

def laws_eqWriteS_v0 : ((List dWrite) × (List dWrite) × Bool × Int) → List AV := (fun x => [.lst tWrite x.1, .lst tWrite x.2.1, .bool x.2.2.1, .int .i64 x.2.2.2])
def laws_eqWriteS_s0 : ((List dWrite) × (List dWrite) × Bool × Int) → St := (fun x => [])
def laws_eqWriteS_e0 : (((List dWrite) × (List dWrite) × Bool × Int) ⊕ ((List dWrite) × (List dWrite) × Bool × Int)) → Out × List AV × St := (Sum.elim (fun z => (.ret, [.lst tWrite z.1, .lst tWrite z.2.1, .bool z.2.2.1, .int .i64 z.2.2.2], [])) (fun z => ((.exit 0), [.lst tWrite z.1, .lst tWrite z.2.1, .bool z.2.2.1, .int .i64 z.2.2.2], [])))

theorem laws_eqWriteS_bx0 (x : ((List dWrite) × (List dWrite) × Bool × Int)) : exec G59 ⟨0, 27, laws_eqWriteS_loops⟩ (loopBody Try.f185 0) (bodyK ⟨0, 27, laws_eqWriteS_loops⟩ [0, 1, 4, 5] []) (setEs (deads 27) [0, 1, 4, 5] (laws_eqWriteS_v0 x)) (laws_eqWriteS_s0 x) = laws_eqWriteS_b0 x (Sum.elim (fun y => some ⟨.norm, laws_eqWriteS_v0 y, laws_eqWriteS_s0 y⟩) fun z => some ⟨(laws_eqWriteS_e0 z).1, (laws_eqWriteS_e0 z).2.1, (laws_eqWriteS_e0 z).2.2⟩) := by
  kernel_rfl

theorem laws_eqWriteS_lo0 : ∀ sp, (laws_eqWriteS_loops 0) = some sp → LoopOk G59 ⟨0, 27, laws_eqWriteS_loops⟩ sp (loopBody Try.f185 0) := by
  intro sp hsp vals st k r h
  cases hsp
  dsimp only at h
  rcases onPats_inv2 h with ⟨p, q, rfl, rfl, h⟩ | h
  · exact loop_runs2 laws_eqWriteS_bp0 laws_eqWriteS_v0 laws_eqWriteS_s0 laws_eqWriteS_e0 (fun z => by rcases z with z | z <;> (intro h; cases h)) laws_eqWriteS_bx0 Fuel (p.1, p.2.1, p.2.2.1, p.2.2.2.1) _ k r (fun z => by rcases z with z | z <;> rfl) h
  cases h

theorem laws_eqWriteS_x (a0 : (List dWrite)) (a1 : (List dWrite)) : execFn G59 laws_eqWriteS_loops Try.f185 [.lst tWrite a0, .lst tWrite a1] [] = laws_eqWriteS_d a0 a1 (fun (y : Bool) => some ⟨.ret, [.bool y], []⟩) := by kernel_rfl

theorem laws_eqWriteS_y (a0 : (List dWrite)) (a1 : (List dWrite)) : execFn G59 laws_eqWriteS_loops Try.f185 [.lst tWrite a0, .lst tWrite a1] [] = laws_eqWriteS_k a0 a1 (fun (y : Bool) => some ⟨.ret, [.bool y], []⟩) := (laws_eqWriteS_x a0 a1).trans (by rw [laws_eqWriteS_e])

theorem laws_eqWriteS_l : LoopsOk G59 ⟨0, 27, laws_eqWriteS_loops⟩ (Try.f185.body.getD .skip) :=
  loopsOk_of (ids := [0]) (by kernel_rfl) (by kernel_rfl) ⟨laws_eqWriteS_lo0, trivial⟩

theorem laws_eqWriteS_c : Contract Try.prog 185 laws_eqWriteS_g := by
  refine told G59_ok follows Try.func185 (c := Try.f185.body.getD .skip) (by kernel_rfl) ?_
  intro args s k r hk
  unfold laws_eqWriteS_g at hk
  rcases onPats_inv hk with ⟨p, q, rfl, rfl⟩ | hk
  · exact ⟨laws_eqWriteS_loops, laws_eqWriteS_q p.1 p.2.1, laws_eqWriteS_y p.1 p.2.1, laws_eqWriteS_l⟩
  cases hk

def G60 : Glob := G59.add 185 laws_eqWriteS_g

theorem G60_ok : GlobOk Try.prog G60 := G59_ok.add ⟨Try.f185, Try.func185, by kernel_rfl, by kernel_rfl⟩ laws_eqWriteS_c

/-! ### loop.example/g00327/laws.eqTxn -/

def laws_eqTxn_loops : Nat → Option LoopSpec
  | _ => none

theorem laws_eqTxn_x (a0 : Int) (a1 : Int) (a2 : Int) (a3 : Int) (a4 : (List dRange)) (a5 : (List dWrite)) (a6 : Bool) (a7 : ByteArray) (a8 : Int) (a9 : Int) (a10 : Int) (a11 : Int) (a12 : (List dRange)) (a13 : (List dWrite)) (a14 : Bool) (a15 : ByteArray) : execFn G60 laws_eqTxn_loops Try.f104 [.agg [.int .i64 a0, .int .i64 a1, .int .i64 a2, .int .i64 a3, .lst tRange a4, .lst tWrite a5, .bool a6, .str a7], .agg [.int .i64 a8, .int .i64 a9, .int .i64 a10, .int .i64 a11, .lst tRange a12, .lst tWrite a13, .bool a14, .str a15]] [] = laws_eqTxn_d (a0, (a1, (a2, (a3, (a4, (a5, (a6, a7))))))) (a8, (a9, (a10, (a11, (a12, (a13, (a14, a15))))))) (fun (y : Bool) => some ⟨.ret, [.bool y], []⟩) := by kernel_rfl

theorem laws_eqTxn_y (a0 : Int) (a1 : Int) (a2 : Int) (a3 : Int) (a4 : (List dRange)) (a5 : (List dWrite)) (a6 : Bool) (a7 : ByteArray) (a8 : Int) (a9 : Int) (a10 : Int) (a11 : Int) (a12 : (List dRange)) (a13 : (List dWrite)) (a14 : Bool) (a15 : ByteArray) : execFn G60 laws_eqTxn_loops Try.f104 [.agg [.int .i64 a0, .int .i64 a1, .int .i64 a2, .int .i64 a3, .lst tRange a4, .lst tWrite a5, .bool a6, .str a7], .agg [.int .i64 a8, .int .i64 a9, .int .i64 a10, .int .i64 a11, .lst tRange a12, .lst tWrite a13, .bool a14, .str a15]] [] = laws_eqTxn_k (a0, (a1, (a2, (a3, (a4, (a5, (a6, a7))))))) (a8, (a9, (a10, (a11, (a12, (a13, (a14, a15))))))) (fun (y : Bool) => some ⟨.ret, [.bool y], []⟩) := (laws_eqTxn_x a0 a1 a2 a3 a4 a5 a6 a7 a8 a9 a10 a11 a12 a13 a14 a15).trans (by rw [laws_eqTxn_e])

theorem laws_eqTxn_l : LoopsOk G60 ⟨0, 47, laws_eqTxn_loops⟩ (Try.f104.body.getD .skip) :=
  loopsOk_of (ids := []) (by kernel_rfl) (by kernel_rfl) trivial

theorem laws_eqTxn_c : Contract Try.prog 104 laws_eqTxn_g := by
  refine told G60_ok follows Try.func104 (c := Try.f104.body.getD .skip) (by kernel_rfl) ?_
  intro args s k r hk
  unfold laws_eqTxn_g at hk
  rcases onPats_inv hk with ⟨p, q, rfl, rfl⟩ | hk
  · exact ⟨laws_eqTxn_loops, laws_eqTxn_q p.1.1 p.1.2.1 p.1.2.2.1 p.1.2.2.2.1 p.1.2.2.2.2.1 p.1.2.2.2.2.2.1 p.1.2.2.2.2.2.2.1 p.1.2.2.2.2.2.2.2.1 p.2.1.1 p.2.1.2.1 p.2.1.2.2.1 p.2.1.2.2.2.1 p.2.1.2.2.2.2.1 p.2.1.2.2.2.2.2.1 p.2.1.2.2.2.2.2.2.1 p.2.1.2.2.2.2.2.2.2.1, laws_eqTxn_y p.1.1 p.1.2.1 p.1.2.2.1 p.1.2.2.2.1 p.1.2.2.2.2.1 p.1.2.2.2.2.2.1 p.1.2.2.2.2.2.2.1 p.1.2.2.2.2.2.2.2.1 p.2.1.1 p.2.1.2.1 p.2.1.2.2.1 p.2.1.2.2.2.1 p.2.1.2.2.2.2.1 p.2.1.2.2.2.2.2.1 p.2.1.2.2.2.2.2.2.1 p.2.1.2.2.2.2.2.2.2.1, laws_eqTxn_l⟩
  cases hk

def G61 : Glob := G60.add 104 laws_eqTxn_g

theorem G61_ok : GlobOk Try.prog G61 := G60_ok.add ⟨Try.f104, Try.func104, by kernel_rfl, by kernel_rfl⟩ laws_eqTxn_c

/-! ### loop.example/g00327/laws.eqVersion -/

def laws_eqVersion_loops : Nat → Option LoopSpec
  | _ => none

theorem laws_eqVersion_x (a0 : ByteArray) (a1 : ByteArray) (a2 : Bool) (a3 : Int) (a4 : ByteArray) (a5 : ByteArray) (a6 : Bool) (a7 : Int) : execFn G61 laws_eqVersion_loops Try.f198 [.agg [.str a0, .str a1, .bool a2, .int .i64 a3], .agg [.str a4, .str a5, .bool a6, .int .i64 a7]] [] = laws_eqVersion_d (a0, (a1, (a2, a3))) (a4, (a5, (a6, a7))) (fun (y : Bool) => some ⟨.ret, [.bool y], []⟩) := by kernel_rfl

theorem laws_eqVersion_y (a0 : ByteArray) (a1 : ByteArray) (a2 : Bool) (a3 : Int) (a4 : ByteArray) (a5 : ByteArray) (a6 : Bool) (a7 : Int) : execFn G61 laws_eqVersion_loops Try.f198 [.agg [.str a0, .str a1, .bool a2, .int .i64 a3], .agg [.str a4, .str a5, .bool a6, .int .i64 a7]] [] = laws_eqVersion_k (a0, (a1, (a2, a3))) (a4, (a5, (a6, a7))) (fun (y : Bool) => some ⟨.ret, [.bool y], []⟩) := (laws_eqVersion_x a0 a1 a2 a3 a4 a5 a6 a7).trans (by rw [laws_eqVersion_e])

theorem laws_eqVersion_l : LoopsOk G61 ⟨0, 25, laws_eqVersion_loops⟩ (Try.f198.body.getD .skip) :=
  loopsOk_of (ids := []) (by kernel_rfl) (by kernel_rfl) trivial

theorem laws_eqVersion_c : Contract Try.prog 198 laws_eqVersion_g := by
  refine told G61_ok follows Try.func198 (c := Try.f198.body.getD .skip) (by kernel_rfl) ?_
  intro args s k r hk
  unfold laws_eqVersion_g at hk
  rcases onPats_inv hk with ⟨p, q, rfl, rfl⟩ | hk
  · exact ⟨laws_eqVersion_loops, laws_eqVersion_q p.1.1 p.1.2.1 p.1.2.2.1 p.1.2.2.2.1 p.2.1.1 p.2.1.2.1 p.2.1.2.2.1 p.2.1.2.2.2.1, laws_eqVersion_y p.1.1 p.1.2.1 p.1.2.2.1 p.1.2.2.2.1 p.2.1.1 p.2.1.2.1 p.2.1.2.2.1 p.2.1.2.2.2.1, laws_eqVersion_l⟩
  cases hk

def G62 : Glob := G61.add 198 laws_eqVersion_g

theorem G62_ok : GlobOk Try.prog G62 := G61_ok.add ⟨Try.f198, Try.func198, by kernel_rfl, by kernel_rfl⟩ laws_eqVersion_c

/-! ### loop.example/g00327/laws.eqVersionS -/

def laws_eqVersionS_loops : Nat → Option LoopSpec
  | 0 => some ⟨[0, 1, 4, 5], [], fun vals st k => onPats [.lst tVersion, .lst tVersion, .bool, .int .i64] [] vals st (fun p q => loopK laws_eqVersionS_b0 Fuel (p.1, p.2.1, p.2.2.1, p.2.2.2.1) (Sum.elim (fun z => k .ret [.lst tVersion z.1, .lst tVersion z.2.1, .bool z.2.2.1, .int .i64 z.2.2.2] []) (fun z => k (.exit 0) [.lst tVersion z.1, .lst tVersion z.2.1, .bool z.2.2.1, .int .i64 z.2.2.2] [])))
      (none)⟩
  | 2000006 => some ⟨[0, 2, 4, 6, 8, 10, 12, 14, 16, 18], [], fun _ _ _ => none⟩
  | _ => none

def laws_eqVersionS_v0 : ((List dVersion) × (List dVersion) × Bool × Int) → List AV := (fun x => [.lst tVersion x.1, .lst tVersion x.2.1, .bool x.2.2.1, .int .i64 x.2.2.2])
def laws_eqVersionS_s0 : ((List dVersion) × (List dVersion) × Bool × Int) → St := (fun x => [])
def laws_eqVersionS_e0 : (((List dVersion) × (List dVersion) × Bool × Int) ⊕ ((List dVersion) × (List dVersion) × Bool × Int)) → Out × List AV × St := (Sum.elim (fun z => (.ret, [.lst tVersion z.1, .lst tVersion z.2.1, .bool z.2.2.1, .int .i64 z.2.2.2], [])) (fun z => ((.exit 0), [.lst tVersion z.1, .lst tVersion z.2.1, .bool z.2.2.1, .int .i64 z.2.2.2], [])))

theorem laws_eqVersionS_bx0 (x : ((List dVersion) × (List dVersion) × Bool × Int)) : exec G62 ⟨0, 27, laws_eqVersionS_loops⟩ (loopBody Try.f121 0) (bodyK ⟨0, 27, laws_eqVersionS_loops⟩ [0, 1, 4, 5] []) (setEs (deads 27) [0, 1, 4, 5] (laws_eqVersionS_v0 x)) (laws_eqVersionS_s0 x) = laws_eqVersionS_b0 x (Sum.elim (fun y => some ⟨.norm, laws_eqVersionS_v0 y, laws_eqVersionS_s0 y⟩) fun z => some ⟨(laws_eqVersionS_e0 z).1, (laws_eqVersionS_e0 z).2.1, (laws_eqVersionS_e0 z).2.2⟩) := by
  kernel_rfl

theorem laws_eqVersionS_lo0 : ∀ sp, (laws_eqVersionS_loops 0) = some sp → LoopOk G62 ⟨0, 27, laws_eqVersionS_loops⟩ sp (loopBody Try.f121 0) := by
  intro sp hsp vals st k r h
  cases hsp
  dsimp only at h
  rcases onPats_inv2 h with ⟨p, q, rfl, rfl, h⟩ | h
  · exact loop_runs2 laws_eqVersionS_bp0 laws_eqVersionS_v0 laws_eqVersionS_s0 laws_eqVersionS_e0 (fun z => by rcases z with z | z <;> (intro h; cases h)) laws_eqVersionS_bx0 Fuel (p.1, p.2.1, p.2.2.1, p.2.2.2.1) _ k r (fun z => by rcases z with z | z <;> rfl) h
  cases h

theorem laws_eqVersionS_x (a0 : (List dVersion)) (a1 : (List dVersion)) : execFn G62 laws_eqVersionS_loops Try.f121 [.lst tVersion a0, .lst tVersion a1] [] = laws_eqVersionS_d a0 a1 (fun (y : Bool) => some ⟨.ret, [.bool y], []⟩) := by kernel_rfl

theorem laws_eqVersionS_y (a0 : (List dVersion)) (a1 : (List dVersion)) : execFn G62 laws_eqVersionS_loops Try.f121 [.lst tVersion a0, .lst tVersion a1] [] = laws_eqVersionS_k a0 a1 (fun (y : Bool) => some ⟨.ret, [.bool y], []⟩) := (laws_eqVersionS_x a0 a1).trans (by rw [laws_eqVersionS_e])

theorem laws_eqVersionS_l : LoopsOk G62 ⟨0, 27, laws_eqVersionS_loops⟩ (Try.f121.body.getD .skip) :=
  loopsOk_of (ids := [0]) (by kernel_rfl) (by kernel_rfl) ⟨laws_eqVersionS_lo0, trivial⟩

theorem laws_eqVersionS_c : Contract Try.prog 121 laws_eqVersionS_g := by
  refine told G62_ok follows Try.func121 (c := Try.f121.body.getD .skip) (by kernel_rfl) ?_
  intro args s k r hk
  unfold laws_eqVersionS_g at hk
  rcases onPats_inv hk with ⟨p, q, rfl, rfl⟩ | hk
  · exact ⟨laws_eqVersionS_loops, laws_eqVersionS_q p.1 p.2.1, laws_eqVersionS_y p.1 p.2.1, laws_eqVersionS_l⟩
  cases hk

def G63 : Glob := G62.add 121 laws_eqVersionS_g

theorem G63_ok : GlobOk Try.prog G63 := G62_ok.add ⟨Try.f121, Try.func121, by kernel_rfl, by kernel_rfl⟩ laws_eqVersionS_c

/-! ### loop.example/g00327/laws.eqTxnS -/

def laws_eqTxnS_loops : Nat → Option LoopSpec
  | 0 => some ⟨[0, 1, 4, 5], [], fun vals st k => onPats [.lst tTxn, .lst tTxn, .bool, .int .i64] [] vals st (fun p q => loopK laws_eqTxnS_b0 Fuel (p.1, p.2.1, p.2.2.1, p.2.2.2.1) (Sum.elim (fun z => k .ret [.lst tTxn z.1, .lst tTxn z.2.1, .bool z.2.2.1, .int .i64 z.2.2.2] []) (fun z => k (.exit 0) [.lst tTxn z.1, .lst tTxn z.2.1, .bool z.2.2.1, .int .i64 z.2.2.2] [])))
      (none)⟩
  | 2000006 => some ⟨[0, 2, 4, 6, 8, 10, 12, 14, 16, 18], [], fun _ _ _ => none⟩
  | _ => none

def laws_eqTxnS_v0 : ((List dTxn) × (List dTxn) × Bool × Int) → List AV := (fun x => [.lst tTxn x.1, .lst tTxn x.2.1, .bool x.2.2.1, .int .i64 x.2.2.2])
def laws_eqTxnS_s0 : ((List dTxn) × (List dTxn) × Bool × Int) → St := (fun x => [])
def laws_eqTxnS_e0 : (((List dTxn) × (List dTxn) × Bool × Int) ⊕ ((List dTxn) × (List dTxn) × Bool × Int)) → Out × List AV × St := (Sum.elim (fun z => (.ret, [.lst tTxn z.1, .lst tTxn z.2.1, .bool z.2.2.1, .int .i64 z.2.2.2], [])) (fun z => ((.exit 0), [.lst tTxn z.1, .lst tTxn z.2.1, .bool z.2.2.1, .int .i64 z.2.2.2], [])))

theorem laws_eqTxnS_bx0 (x : ((List dTxn) × (List dTxn) × Bool × Int)) : exec G63 ⟨0, 27, laws_eqTxnS_loops⟩ (loopBody Try.f52 0) (bodyK ⟨0, 27, laws_eqTxnS_loops⟩ [0, 1, 4, 5] []) (setEs (deads 27) [0, 1, 4, 5] (laws_eqTxnS_v0 x)) (laws_eqTxnS_s0 x) = laws_eqTxnS_b0 x (Sum.elim (fun y => some ⟨.norm, laws_eqTxnS_v0 y, laws_eqTxnS_s0 y⟩) fun z => some ⟨(laws_eqTxnS_e0 z).1, (laws_eqTxnS_e0 z).2.1, (laws_eqTxnS_e0 z).2.2⟩) := by
  kernel_rfl

theorem laws_eqTxnS_lo0 : ∀ sp, (laws_eqTxnS_loops 0) = some sp → LoopOk G63 ⟨0, 27, laws_eqTxnS_loops⟩ sp (loopBody Try.f52 0) := by
  intro sp hsp vals st k r h
  cases hsp
  dsimp only at h
  rcases onPats_inv2 h with ⟨p, q, rfl, rfl, h⟩ | h
  · exact loop_runs2 laws_eqTxnS_bp0 laws_eqTxnS_v0 laws_eqTxnS_s0 laws_eqTxnS_e0 (fun z => by rcases z with z | z <;> (intro h; cases h)) laws_eqTxnS_bx0 Fuel (p.1, p.2.1, p.2.2.1, p.2.2.2.1) _ k r (fun z => by rcases z with z | z <;> rfl) h
  cases h

theorem laws_eqTxnS_x (a0 : (List dTxn)) (a1 : (List dTxn)) : execFn G63 laws_eqTxnS_loops Try.f52 [.lst tTxn a0, .lst tTxn a1] [] = laws_eqTxnS_d a0 a1 (fun (y : Bool) => some ⟨.ret, [.bool y], []⟩) := by kernel_rfl

theorem laws_eqTxnS_y (a0 : (List dTxn)) (a1 : (List dTxn)) : execFn G63 laws_eqTxnS_loops Try.f52 [.lst tTxn a0, .lst tTxn a1] [] = laws_eqTxnS_k a0 a1 (fun (y : Bool) => some ⟨.ret, [.bool y], []⟩) := (laws_eqTxnS_x a0 a1).trans (by rw [laws_eqTxnS_e])

theorem laws_eqTxnS_l : LoopsOk G63 ⟨0, 27, laws_eqTxnS_loops⟩ (Try.f52.body.getD .skip) :=
  loopsOk_of (ids := [0]) (by kernel_rfl) (by kernel_rfl) ⟨laws_eqTxnS_lo0, trivial⟩

theorem laws_eqTxnS_c : Contract Try.prog 52 laws_eqTxnS_g := by
  refine told G63_ok follows Try.func52 (c := Try.f52.body.getD .skip) (by kernel_rfl) ?_
  intro args s k r hk
  unfold laws_eqTxnS_g at hk
  rcases onPats_inv hk with ⟨p, q, rfl, rfl⟩ | hk
  · exact ⟨laws_eqTxnS_loops, laws_eqTxnS_q p.1 p.2.1, laws_eqTxnS_y p.1 p.2.1, laws_eqTxnS_l⟩
  cases hk

def G64 : Glob := G63.add 52 laws_eqTxnS_g

theorem G64_ok : GlobOk Try.prog G64 := G63_ok.add ⟨Try.f52, Try.func52, by kernel_rfl, by kernel_rfl⟩ laws_eqTxnS_c

/-! ### loop.example/g00327/laws.eqBase -/

def laws_eqBase_loops : Nat → Option LoopSpec
  | _ => none

theorem laws_eqBase_x (a0 : (List dVersion)) (a1 : (List dTxn)) (a2 : (List dTxn)) (a3 : Int) (a4 : Int) (a5 : (List dVersion)) (a6 : (List dTxn)) (a7 : (List dTxn)) (a8 : Int) (a9 : Int) : execFn G64 laws_eqBase_loops Try.f51 [.agg [.lst tVersion a0, .lst tTxn a1, .lst tTxn a2, .int .i64 a3, .int .i64 a4], .agg [.lst tVersion a5, .lst tTxn a6, .lst tTxn a7, .int .i64 a8, .int .i64 a9]] [] = laws_eqBase_d (a0, (a1, (a2, (a3, a4)))) (a5, (a6, (a7, (a8, a9)))) (fun (y : Bool) => some ⟨.ret, [.bool y], []⟩) := by kernel_rfl

theorem laws_eqBase_y (a0 : (List dVersion)) (a1 : (List dTxn)) (a2 : (List dTxn)) (a3 : Int) (a4 : Int) (a5 : (List dVersion)) (a6 : (List dTxn)) (a7 : (List dTxn)) (a8 : Int) (a9 : Int) : execFn G64 laws_eqBase_loops Try.f51 [.agg [.lst tVersion a0, .lst tTxn a1, .lst tTxn a2, .int .i64 a3, .int .i64 a4], .agg [.lst tVersion a5, .lst tTxn a6, .lst tTxn a7, .int .i64 a8, .int .i64 a9]] [] = laws_eqBase_k (a0, (a1, (a2, (a3, a4)))) (a5, (a6, (a7, (a8, a9)))) (fun (y : Bool) => some ⟨.ret, [.bool y], []⟩) := (laws_eqBase_x a0 a1 a2 a3 a4 a5 a6 a7 a8 a9).trans (by rw [laws_eqBase_e])

theorem laws_eqBase_l : LoopsOk G64 ⟨0, 33, laws_eqBase_loops⟩ (Try.f51.body.getD .skip) :=
  loopsOk_of (ids := []) (by kernel_rfl) (by kernel_rfl) trivial

theorem laws_eqBase_c : Contract Try.prog 51 laws_eqBase_g := by
  refine told G64_ok follows Try.func51 (c := Try.f51.body.getD .skip) (by kernel_rfl) ?_
  intro args s k r hk
  unfold laws_eqBase_g at hk
  rcases onPats_inv hk with ⟨p, q, rfl, rfl⟩ | hk
  · exact ⟨laws_eqBase_loops, laws_eqBase_q p.1.1 p.1.2.1 p.1.2.2.1 p.1.2.2.2.1 p.1.2.2.2.2.1 p.2.1.1 p.2.1.2.1 p.2.1.2.2.1 p.2.1.2.2.2.1 p.2.1.2.2.2.2.1, laws_eqBase_y p.1.1 p.1.2.1 p.1.2.2.1 p.1.2.2.2.1 p.1.2.2.2.2.1 p.2.1.1 p.2.1.2.1 p.2.1.2.2.1 p.2.1.2.2.2.1 p.2.1.2.2.2.2.1, laws_eqBase_l⟩
  cases hk

def G65 : Glob := G64.add 51 laws_eqBase_g

theorem G65_ok : GlobOk Try.prog G65 := G64_ok.add ⟨Try.f51, Try.func51, by kernel_rfl, by kernel_rfl⟩ laws_eqBase_c

/-! ### loop.example/g00327/laws.eqRecord -/

def laws_eqRecord_loops : Nat → Option LoopSpec
  | _ => none

theorem laws_eqRecord_x (a0 : Int) (a1 : Int) (a2 : Int) (a3 : Int) (a4 : Int) (a5 : (List dRange)) (a6 : (List dWrite)) (a7 : Bool) (a8 : ByteArray) (a9 : ByteArray) (a10 : Bool) (a11 : (List dVersion)) (a12 : (List dTxn)) (a13 : (List dTxn)) (a14 : Int) (a15 : Int) (a16 : Int) (a17 : Int) (a18 : Int) (a19 : Int) (a20 : Int) (a21 : (List dRange)) (a22 : (List dWrite)) (a23 : Bool) (a24 : ByteArray) (a25 : ByteArray) (a26 : Bool) (a27 : (List dVersion)) (a28 : (List dTxn)) (a29 : (List dTxn)) (a30 : Int) (a31 : Int) : execFn G65 laws_eqRecord_loops Try.f41 [.agg [.int .i64 a0, .int .i64 a1, .int .i64 a2, .int .i64 a3, .int .i64 a4, .lst tRange a5, .lst tWrite a6, .bool a7, .str a8, .str a9, .bool a10, .lst tVersion a11, .lst tTxn a12, .lst tTxn a13, .int .i64 a14, .int .i64 a15], .agg [.int .i64 a16, .int .i64 a17, .int .i64 a18, .int .i64 a19, .int .i64 a20, .lst tRange a21, .lst tWrite a22, .bool a23, .str a24, .str a25, .bool a26, .lst tVersion a27, .lst tTxn a28, .lst tTxn a29, .int .i64 a30, .int .i64 a31]] [] = laws_eqRecord_d (a0, ((a1, (a2, (a3, (a4, (a5, (a6, (a7, a8))))))), (a9, (a10, (a11, (a12, (a13, (a14, a15)))))))) (a16, ((a17, (a18, (a19, (a20, (a21, (a22, (a23, a24))))))), (a25, (a26, (a27, (a28, (a29, (a30, a31)))))))) (fun (y : Bool) => some ⟨.ret, [.bool y], []⟩) := by kernel_rfl

theorem laws_eqRecord_y (a0 : Int) (a1 : Int) (a2 : Int) (a3 : Int) (a4 : Int) (a5 : (List dRange)) (a6 : (List dWrite)) (a7 : Bool) (a8 : ByteArray) (a9 : ByteArray) (a10 : Bool) (a11 : (List dVersion)) (a12 : (List dTxn)) (a13 : (List dTxn)) (a14 : Int) (a15 : Int) (a16 : Int) (a17 : Int) (a18 : Int) (a19 : Int) (a20 : Int) (a21 : (List dRange)) (a22 : (List dWrite)) (a23 : Bool) (a24 : ByteArray) (a25 : ByteArray) (a26 : Bool) (a27 : (List dVersion)) (a28 : (List dTxn)) (a29 : (List dTxn)) (a30 : Int) (a31 : Int) : execFn G65 laws_eqRecord_loops Try.f41 [.agg [.int .i64 a0, .int .i64 a1, .int .i64 a2, .int .i64 a3, .int .i64 a4, .lst tRange a5, .lst tWrite a6, .bool a7, .str a8, .str a9, .bool a10, .lst tVersion a11, .lst tTxn a12, .lst tTxn a13, .int .i64 a14, .int .i64 a15], .agg [.int .i64 a16, .int .i64 a17, .int .i64 a18, .int .i64 a19, .int .i64 a20, .lst tRange a21, .lst tWrite a22, .bool a23, .str a24, .str a25, .bool a26, .lst tVersion a27, .lst tTxn a28, .lst tTxn a29, .int .i64 a30, .int .i64 a31]] [] = laws_eqRecord_k (a0, ((a1, (a2, (a3, (a4, (a5, (a6, (a7, a8))))))), (a9, (a10, (a11, (a12, (a13, (a14, a15)))))))) (a16, ((a17, (a18, (a19, (a20, (a21, (a22, (a23, a24))))))), (a25, (a26, (a27, (a28, (a29, (a30, a31)))))))) (fun (y : Bool) => some ⟨.ret, [.bool y], []⟩) := (laws_eqRecord_x a0 a1 a2 a3 a4 a5 a6 a7 a8 a9 a10 a11 a12 a13 a14 a15 a16 a17 a18 a19 a20 a21 a22 a23 a24 a25 a26 a27 a28 a29 a30 a31).trans (by rw [laws_eqRecord_e])

theorem laws_eqRecord_l : LoopsOk G65 ⟨0, 32, laws_eqRecord_loops⟩ (Try.f41.body.getD .skip) :=
  loopsOk_of (ids := []) (by kernel_rfl) (by kernel_rfl) trivial

theorem laws_eqRecord_c : Contract Try.prog 41 laws_eqRecord_g := by
  refine told G65_ok follows Try.func41 (c := Try.f41.body.getD .skip) (by kernel_rfl) ?_
  intro args s k r hk
  unfold laws_eqRecord_g at hk
  rcases onPats_inv hk with ⟨p, q, rfl, rfl⟩ | hk
  · exact ⟨laws_eqRecord_loops, laws_eqRecord_q p.1.1 p.1.2.1 p.1.2.2.1 p.1.2.2.2.1 p.1.2.2.2.2.1 p.1.2.2.2.2.2.1 p.1.2.2.2.2.2.2.1 p.1.2.2.2.2.2.2.2.1 p.1.2.2.2.2.2.2.2.2.1 p.1.2.2.2.2.2.2.2.2.2.1 p.1.2.2.2.2.2.2.2.2.2.2.1 p.1.2.2.2.2.2.2.2.2.2.2.2.1 p.1.2.2.2.2.2.2.2.2.2.2.2.2.1 p.1.2.2.2.2.2.2.2.2.2.2.2.2.2.1 p.1.2.2.2.2.2.2.2.2.2.2.2.2.2.2.1 p.1.2.2.2.2.2.2.2.2.2.2.2.2.2.2.2.1 p.2.1.1 p.2.1.2.1 p.2.1.2.2.1 p.2.1.2.2.2.1 p.2.1.2.2.2.2.1 p.2.1.2.2.2.2.2.1 p.2.1.2.2.2.2.2.2.1 p.2.1.2.2.2.2.2.2.2.1 p.2.1.2.2.2.2.2.2.2.2.1 p.2.1.2.2.2.2.2.2.2.2.2.1 p.2.1.2.2.2.2.2.2.2.2.2.2.1 p.2.1.2.2.2.2.2.2.2.2.2.2.2.1 p.2.1.2.2.2.2.2.2.2.2.2.2.2.2.1 p.2.1.2.2.2.2.2.2.2.2.2.2.2.2.2.1 p.2.1.2.2.2.2.2.2.2.2.2.2.2.2.2.2.1 p.2.1.2.2.2.2.2.2.2.2.2.2.2.2.2.2.2.1, laws_eqRecord_y p.1.1 p.1.2.1 p.1.2.2.1 p.1.2.2.2.1 p.1.2.2.2.2.1 p.1.2.2.2.2.2.1 p.1.2.2.2.2.2.2.1 p.1.2.2.2.2.2.2.2.1 p.1.2.2.2.2.2.2.2.2.1 p.1.2.2.2.2.2.2.2.2.2.1 p.1.2.2.2.2.2.2.2.2.2.2.1 p.1.2.2.2.2.2.2.2.2.2.2.2.1 p.1.2.2.2.2.2.2.2.2.2.2.2.2.1 p.1.2.2.2.2.2.2.2.2.2.2.2.2.2.1 p.1.2.2.2.2.2.2.2.2.2.2.2.2.2.2.1 p.1.2.2.2.2.2.2.2.2.2.2.2.2.2.2.2.1 p.2.1.1 p.2.1.2.1 p.2.1.2.2.1 p.2.1.2.2.2.1 p.2.1.2.2.2.2.1 p.2.1.2.2.2.2.2.1 p.2.1.2.2.2.2.2.2.1 p.2.1.2.2.2.2.2.2.2.1 p.2.1.2.2.2.2.2.2.2.2.1 p.2.1.2.2.2.2.2.2.2.2.2.1 p.2.1.2.2.2.2.2.2.2.2.2.2.1 p.2.1.2.2.2.2.2.2.2.2.2.2.2.1 p.2.1.2.2.2.2.2.2.2.2.2.2.2.2.1 p.2.1.2.2.2.2.2.2.2.2.2.2.2.2.2.1 p.2.1.2.2.2.2.2.2.2.2.2.2.2.2.2.2.1 p.2.1.2.2.2.2.2.2.2.2.2.2.2.2.2.2.2.1, laws_eqRecord_l⟩
  cases hk

def G66 : Glob := G65.add 41 laws_eqRecord_g

theorem G66_ok : GlobOk Try.prog G66 := G65_ok.add ⟨Try.f41, Try.func41, by kernel_rfl, by kernel_rfl⟩ laws_eqRecord_c

/-! ### loop.example/g00327/laws.FnExactRecordOk -/

def laws_FnExactRecordOk_loops : Nat → Option LoopSpec
  | _ => none

theorem laws_FnExactRecordOk_x (a0 : Int) (a1 : Int) (a2 : Int) (a3 : Int) (a4 : Int) (a5 : (List dRange)) (a6 : (List dWrite)) (a7 : Bool) (a8 : ByteArray) (a9 : ByteArray) (a10 : Bool) (a11 : (List dVersion)) (a12 : (List dTxn)) (a13 : (List dTxn)) (a14 : Int) (a15 : Int) : execFn G66 laws_FnExactRecordOk_loops Try.f6 [.agg [.int .i64 a0, .int .i64 a1, .int .i64 a2, .int .i64 a3, .int .i64 a4, .lst tRange a5, .lst tWrite a6, .bool a7, .str a8, .str a9, .bool a10, .lst tVersion a11, .lst tTxn a12, .lst tTxn a13, .int .i64 a14, .int .i64 a15]] [] = laws_FnExactRecordOk_d (a0, ((a1, (a2, (a3, (a4, (a5, (a6, (a7, a8))))))), (a9, (a10, (a11, (a12, (a13, (a14, a15)))))))) (fun (y : Bool) => some ⟨.ret, [.bool y], []⟩) := by kernel_rfl

theorem laws_FnExactRecordOk_y (a0 : Int) (a1 : Int) (a2 : Int) (a3 : Int) (a4 : Int) (a5 : (List dRange)) (a6 : (List dWrite)) (a7 : Bool) (a8 : ByteArray) (a9 : ByteArray) (a10 : Bool) (a11 : (List dVersion)) (a12 : (List dTxn)) (a13 : (List dTxn)) (a14 : Int) (a15 : Int) : execFn G66 laws_FnExactRecordOk_loops Try.f6 [.agg [.int .i64 a0, .int .i64 a1, .int .i64 a2, .int .i64 a3, .int .i64 a4, .lst tRange a5, .lst tWrite a6, .bool a7, .str a8, .str a9, .bool a10, .lst tVersion a11, .lst tTxn a12, .lst tTxn a13, .int .i64 a14, .int .i64 a15]] [] = laws_FnExactRecordOk_k (a0, ((a1, (a2, (a3, (a4, (a5, (a6, (a7, a8))))))), (a9, (a10, (a11, (a12, (a13, (a14, a15)))))))) (fun (y : Bool) => some ⟨.ret, [.bool y], []⟩) := (laws_FnExactRecordOk_x a0 a1 a2 a3 a4 a5 a6 a7 a8 a9 a10 a11 a12 a13 a14 a15).trans (by rw [laws_FnExactRecordOk_e])

theorem laws_FnExactRecordOk_l : LoopsOk G66 ⟨0, 27, laws_FnExactRecordOk_loops⟩ (Try.f6.body.getD .skip) :=
  loopsOk_of (ids := []) (by kernel_rfl) (by kernel_rfl) trivial

theorem laws_FnExactRecordOk_c : Contract Try.prog 6 laws_FnExactRecordOk_g := by
  refine told G66_ok follows Try.func6 (c := Try.f6.body.getD .skip) (by kernel_rfl) ?_
  intro args s k r hk
  unfold laws_FnExactRecordOk_g at hk
  rcases onPats_inv hk with ⟨p, q, rfl, rfl⟩ | hk
  · exact ⟨laws_FnExactRecordOk_loops, laws_FnExactRecordOk_q p.1.1 p.1.2.1 p.1.2.2.1 p.1.2.2.2.1 p.1.2.2.2.2.1 p.1.2.2.2.2.2.1 p.1.2.2.2.2.2.2.1 p.1.2.2.2.2.2.2.2.1 p.1.2.2.2.2.2.2.2.2.1 p.1.2.2.2.2.2.2.2.2.2.1 p.1.2.2.2.2.2.2.2.2.2.2.1 p.1.2.2.2.2.2.2.2.2.2.2.2.1 p.1.2.2.2.2.2.2.2.2.2.2.2.2.1 p.1.2.2.2.2.2.2.2.2.2.2.2.2.2.1 p.1.2.2.2.2.2.2.2.2.2.2.2.2.2.2.1 p.1.2.2.2.2.2.2.2.2.2.2.2.2.2.2.2.1, laws_FnExactRecordOk_y p.1.1 p.1.2.1 p.1.2.2.1 p.1.2.2.2.1 p.1.2.2.2.2.1 p.1.2.2.2.2.2.1 p.1.2.2.2.2.2.2.1 p.1.2.2.2.2.2.2.2.1 p.1.2.2.2.2.2.2.2.2.1 p.1.2.2.2.2.2.2.2.2.2.1 p.1.2.2.2.2.2.2.2.2.2.2.1 p.1.2.2.2.2.2.2.2.2.2.2.2.1 p.1.2.2.2.2.2.2.2.2.2.2.2.2.1 p.1.2.2.2.2.2.2.2.2.2.2.2.2.2.1 p.1.2.2.2.2.2.2.2.2.2.2.2.2.2.2.1 p.1.2.2.2.2.2.2.2.2.2.2.2.2.2.2.2.1, laws_FnExactRecordOk_l⟩
  cases hk

def G67 : Glob := G66.add 6 laws_FnExactRecordOk_g

theorem G67_ok : GlobOk Try.prog G67 := G66_ok.add ⟨Try.f6, Try.func6, by kernel_rfl, by kernel_rfl⟩ laws_FnExactRecordOk_c

end

end Go.VE
