/- Each function told by its native program; written by gen.py. -/

import Derived.Test.YtbedbcnmfoildaaOpenAtS0

namespace Go.VE

open Go.Proofs

noncomputable section

set_option linter.unusedVariables false
set_option linter.unusedSimpArgs false
set_option maxRecDepth 100000


/-! ### loop.example/g00327/laws.szVersion -/

def laws_szVersion_loops : Nat → Option LoopSpec
  | _ => none

theorem laws_szVersion_x (a0 : ByteArray) (a1 : ByteArray) (a2 : Bool) (a3 : Int) (a4 : Int) : execFn G0 laws_szVersion_loops Try.f117 [.agg [.str a0, .str a1, .bool a2, .int .i64 a3], .int .i64 a4] [] = laws_szVersion_d (a0, (a1, (a2, a3))) a4 (fun (y : Int) => some ⟨.ret, [.int .i64 y], []⟩) := by kernel_rfl

theorem laws_szVersion_y (a0 : ByteArray) (a1 : ByteArray) (a2 : Bool) (a3 : Int) (a4 : Int) : execFn G0 laws_szVersion_loops Try.f117 [.agg [.str a0, .str a1, .bool a2, .int .i64 a3], .int .i64 a4] [] = laws_szVersion_k (a0, (a1, (a2, a3))) a4 (fun (y : Int) => some ⟨.ret, [.int .i64 y], []⟩) := (laws_szVersion_x a0 a1 a2 a3 a4).trans (by rw [laws_szVersion_e])

theorem laws_szVersion_l : LoopsOk G0 ⟨0, 20, laws_szVersion_loops⟩ (Try.f117.body.getD .skip) :=
  loopsOk_of (ids := []) (by kernel_rfl) (by kernel_rfl) trivial

theorem laws_szVersion_c : Contract Try.prog 117 laws_szVersion_g := by
  refine told G0_ok follows Try.func117 (c := Try.f117.body.getD .skip) (by kernel_rfl) ?_
  intro args s k r hk
  unfold laws_szVersion_g at hk
  rcases onPats_inv hk with ⟨p, q, rfl, rfl⟩ | hk
  · exact ⟨laws_szVersion_loops, laws_szVersion_q p.1.1 p.1.2.1 p.1.2.2.1 p.1.2.2.2.1 p.2.1, laws_szVersion_y p.1.1 p.1.2.1 p.1.2.2.1 p.1.2.2.2.1 p.2.1, laws_szVersion_l⟩
  cases hk

def G1 : Glob := G0.add 117 laws_szVersion_g

theorem G1_ok : GlobOk Try.prog G1 := G0_ok.add ⟨Try.f117, Try.func117, by kernel_rfl, by kernel_rfl⟩ laws_szVersion_c

/-! ### loop.example/g00327/laws.szVersionS -/

def laws_szVersionS_loops : Nat → Option LoopSpec
  | 0 => some ⟨[0, 1, 4, 5], [], fun vals st k => onPats [.lst tVersion, .int .i64, .int .i64, .int .i64] [] vals st (fun p q => loopK laws_szVersionS_b0 Fuel (p.1, p.2.1, p.2.2.1, p.2.2.2.1) (Sum.elim (fun z => k .ret [.lst tVersion z.1, .int .i64 z.2.1, .int .i64 z.2.2.1, .int .i64 z.2.2.2] []) (fun z => k (.exit 0) [.lst tVersion z.1, .int .i64 z.2.1, .int .i64 z.2.2.1, .int .i64 z.2.2.2] [])))
      (none)⟩
  | _ => none

def laws_szVersionS_v0 : ((List dVersion) × Int × Int × Int) → List AV := (fun x => [.lst tVersion x.1, .int .i64 x.2.1, .int .i64 x.2.2.1, .int .i64 x.2.2.2])
def laws_szVersionS_s0 : ((List dVersion) × Int × Int × Int) → St := (fun x => [])
def laws_szVersionS_e0 : (((List dVersion) × Int × Int × Int) ⊕ ((List dVersion) × Int × Int × Int)) → Out × List AV × St := (Sum.elim (fun z => (.ret, [.lst tVersion z.1, .int .i64 z.2.1, .int .i64 z.2.2.1, .int .i64 z.2.2.2], [])) (fun z => ((.exit 0), [.lst tVersion z.1, .int .i64 z.2.1, .int .i64 z.2.2.1, .int .i64 z.2.2.2], [])))

theorem laws_szVersionS_bx0 (x : ((List dVersion) × Int × Int × Int)) : exec G1 ⟨0, 27, laws_szVersionS_loops⟩ (loopBody Try.f38 0) (bodyK ⟨0, 27, laws_szVersionS_loops⟩ [0, 1, 4, 5] []) (setEs (deads 27) [0, 1, 4, 5] (laws_szVersionS_v0 x)) (laws_szVersionS_s0 x) = laws_szVersionS_b0 x (Sum.elim (fun y => some ⟨.norm, laws_szVersionS_v0 y, laws_szVersionS_s0 y⟩) fun z => some ⟨(laws_szVersionS_e0 z).1, (laws_szVersionS_e0 z).2.1, (laws_szVersionS_e0 z).2.2⟩) := by
  kernel_rfl

theorem laws_szVersionS_lo0 : ∀ sp, (laws_szVersionS_loops 0) = some sp → LoopOk G1 ⟨0, 27, laws_szVersionS_loops⟩ sp (loopBody Try.f38 0) := by
  intro sp hsp vals st k r h
  cases hsp
  dsimp only at h
  rcases onPats_inv2 h with ⟨p, q, rfl, rfl, h⟩ | h
  · exact loop_runs2 laws_szVersionS_bp0 laws_szVersionS_v0 laws_szVersionS_s0 laws_szVersionS_e0 (fun z => by rcases z with z | z <;> (intro h; cases h)) laws_szVersionS_bx0 Fuel (p.1, p.2.1, p.2.2.1, p.2.2.2.1) _ k r (fun z => by rcases z with z | z <;> rfl) h
  cases h

theorem laws_szVersionS_x (a0 : (List dVersion)) (a1 : Int) : execFn G1 laws_szVersionS_loops Try.f38 [.lst tVersion a0, .int .i64 a1] [] = laws_szVersionS_d a0 a1 (fun (y : Int) => some ⟨.ret, [.int .i64 y], []⟩) := by kernel_rfl

theorem laws_szVersionS_y (a0 : (List dVersion)) (a1 : Int) : execFn G1 laws_szVersionS_loops Try.f38 [.lst tVersion a0, .int .i64 a1] [] = laws_szVersionS_k a0 a1 (fun (y : Int) => some ⟨.ret, [.int .i64 y], []⟩) := (laws_szVersionS_x a0 a1).trans (by rw [laws_szVersionS_e])

theorem laws_szVersionS_l : LoopsOk G1 ⟨0, 27, laws_szVersionS_loops⟩ (Try.f38.body.getD .skip) :=
  loopsOk_of (ids := [0]) (by kernel_rfl) (by kernel_rfl) ⟨laws_szVersionS_lo0, trivial⟩

theorem laws_szVersionS_c : Contract Try.prog 38 laws_szVersionS_g := by
  refine told G1_ok follows Try.func38 (c := Try.f38.body.getD .skip) (by kernel_rfl) ?_
  intro args s k r hk
  unfold laws_szVersionS_g at hk
  rcases onPats_inv hk with ⟨p, q, rfl, rfl⟩ | hk
  · exact ⟨laws_szVersionS_loops, laws_szVersionS_q p.1 p.2.1, laws_szVersionS_y p.1 p.2.1, laws_szVersionS_l⟩
  cases hk

def G2 : Glob := G1.add 38 laws_szVersionS_g

theorem G2_ok : GlobOk Try.prog G2 := G1_ok.add ⟨Try.f38, Try.func38, by kernel_rfl, by kernel_rfl⟩ laws_szVersionS_c

/-! ### loop.example/g00327/laws.szRange -/

def laws_szRange_loops : Nat → Option LoopSpec
  | _ => none

theorem laws_szRange_x (a0 : ByteArray) (a1 : ByteArray) (a2 : Int) : execFn G2 laws_szRange_loops Try.f54 [.agg [.str a0, .str a1], .int .i64 a2] [] = laws_szRange_d (a0, a1) a2 (fun (y : Int) => some ⟨.ret, [.int .i64 y], []⟩) := by kernel_rfl

theorem laws_szRange_y (a0 : ByteArray) (a1 : ByteArray) (a2 : Int) : execFn G2 laws_szRange_loops Try.f54 [.agg [.str a0, .str a1], .int .i64 a2] [] = laws_szRange_k (a0, a1) a2 (fun (y : Int) => some ⟨.ret, [.int .i64 y], []⟩) := (laws_szRange_x a0 a1 a2).trans (by rw [laws_szRange_e])

theorem laws_szRange_l : LoopsOk G2 ⟨0, 20, laws_szRange_loops⟩ (Try.f54.body.getD .skip) :=
  loopsOk_of (ids := []) (by kernel_rfl) (by kernel_rfl) trivial

theorem laws_szRange_c : Contract Try.prog 54 laws_szRange_g := by
  refine told G2_ok follows Try.func54 (c := Try.f54.body.getD .skip) (by kernel_rfl) ?_
  intro args s k r hk
  unfold laws_szRange_g at hk
  rcases onPats_inv hk with ⟨p, q, rfl, rfl⟩ | hk
  · exact ⟨laws_szRange_loops, laws_szRange_q p.1.1 p.1.2.1 p.2.1, laws_szRange_y p.1.1 p.1.2.1 p.2.1, laws_szRange_l⟩
  cases hk

def G3 : Glob := G2.add 54 laws_szRange_g

theorem G3_ok : GlobOk Try.prog G3 := G2_ok.add ⟨Try.f54, Try.func54, by kernel_rfl, by kernel_rfl⟩ laws_szRange_c

/-! ### loop.example/g00327/laws.szRangeS -/

def laws_szRangeS_loops : Nat → Option LoopSpec
  | 0 => some ⟨[0, 1, 4, 5], [], fun vals st k => onPats [.lst tRange, .int .i64, .int .i64, .int .i64] [] vals st (fun p q => loopK laws_szRangeS_b0 Fuel (p.1, p.2.1, p.2.2.1, p.2.2.2.1) (Sum.elim (fun z => k .ret [.lst tRange z.1, .int .i64 z.2.1, .int .i64 z.2.2.1, .int .i64 z.2.2.2] []) (fun z => k (.exit 0) [.lst tRange z.1, .int .i64 z.2.1, .int .i64 z.2.2.1, .int .i64 z.2.2.2] [])))
      (none)⟩
  | _ => none

def laws_szRangeS_v0 : ((List dRange) × Int × Int × Int) → List AV := (fun x => [.lst tRange x.1, .int .i64 x.2.1, .int .i64 x.2.2.1, .int .i64 x.2.2.2])
def laws_szRangeS_s0 : ((List dRange) × Int × Int × Int) → St := (fun x => [])
def laws_szRangeS_e0 : (((List dRange) × Int × Int × Int) ⊕ ((List dRange) × Int × Int × Int)) → Out × List AV × St := (Sum.elim (fun z => (.ret, [.lst tRange z.1, .int .i64 z.2.1, .int .i64 z.2.2.1, .int .i64 z.2.2.2], [])) (fun z => ((.exit 0), [.lst tRange z.1, .int .i64 z.2.1, .int .i64 z.2.2.1, .int .i64 z.2.2.2], [])))

theorem laws_szRangeS_bx0 (x : ((List dRange) × Int × Int × Int)) : exec G3 ⟨0, 27, laws_szRangeS_loops⟩ (loopBody Try.f84 0) (bodyK ⟨0, 27, laws_szRangeS_loops⟩ [0, 1, 4, 5] []) (setEs (deads 27) [0, 1, 4, 5] (laws_szRangeS_v0 x)) (laws_szRangeS_s0 x) = laws_szRangeS_b0 x (Sum.elim (fun y => some ⟨.norm, laws_szRangeS_v0 y, laws_szRangeS_s0 y⟩) fun z => some ⟨(laws_szRangeS_e0 z).1, (laws_szRangeS_e0 z).2.1, (laws_szRangeS_e0 z).2.2⟩) := by
  kernel_rfl

theorem laws_szRangeS_lo0 : ∀ sp, (laws_szRangeS_loops 0) = some sp → LoopOk G3 ⟨0, 27, laws_szRangeS_loops⟩ sp (loopBody Try.f84 0) := by
  intro sp hsp vals st k r h
  cases hsp
  dsimp only at h
  rcases onPats_inv2 h with ⟨p, q, rfl, rfl, h⟩ | h
  · exact loop_runs2 laws_szRangeS_bp0 laws_szRangeS_v0 laws_szRangeS_s0 laws_szRangeS_e0 (fun z => by rcases z with z | z <;> (intro h; cases h)) laws_szRangeS_bx0 Fuel (p.1, p.2.1, p.2.2.1, p.2.2.2.1) _ k r (fun z => by rcases z with z | z <;> rfl) h
  cases h

theorem laws_szRangeS_x (a0 : (List dRange)) (a1 : Int) : execFn G3 laws_szRangeS_loops Try.f84 [.lst tRange a0, .int .i64 a1] [] = laws_szRangeS_d a0 a1 (fun (y : Int) => some ⟨.ret, [.int .i64 y], []⟩) := by kernel_rfl

theorem laws_szRangeS_y (a0 : (List dRange)) (a1 : Int) : execFn G3 laws_szRangeS_loops Try.f84 [.lst tRange a0, .int .i64 a1] [] = laws_szRangeS_k a0 a1 (fun (y : Int) => some ⟨.ret, [.int .i64 y], []⟩) := (laws_szRangeS_x a0 a1).trans (by rw [laws_szRangeS_e])

theorem laws_szRangeS_l : LoopsOk G3 ⟨0, 27, laws_szRangeS_loops⟩ (Try.f84.body.getD .skip) :=
  loopsOk_of (ids := [0]) (by kernel_rfl) (by kernel_rfl) ⟨laws_szRangeS_lo0, trivial⟩

theorem laws_szRangeS_c : Contract Try.prog 84 laws_szRangeS_g := by
  refine told G3_ok follows Try.func84 (c := Try.f84.body.getD .skip) (by kernel_rfl) ?_
  intro args s k r hk
  unfold laws_szRangeS_g at hk
  rcases onPats_inv hk with ⟨p, q, rfl, rfl⟩ | hk
  · exact ⟨laws_szRangeS_loops, laws_szRangeS_q p.1 p.2.1, laws_szRangeS_y p.1 p.2.1, laws_szRangeS_l⟩
  cases hk

def G4 : Glob := G3.add 84 laws_szRangeS_g

theorem G4_ok : GlobOk Try.prog G4 := G3_ok.add ⟨Try.f84, Try.func84, by kernel_rfl, by kernel_rfl⟩ laws_szRangeS_c

/-! ### loop.example/g00327/laws.szWrite -/

def laws_szWrite_loops : Nat → Option LoopSpec
  | _ => none

theorem laws_szWrite_x (a0 : ByteArray) (a1 : ByteArray) (a2 : Bool) (a3 : Int) : execFn G4 laws_szWrite_loops Try.f62 [.agg [.str a0, .str a1, .bool a2], .int .i64 a3] [] = laws_szWrite_d (a0, (a1, a2)) a3 (fun (y : Int) => some ⟨.ret, [.int .i64 y], []⟩) := by kernel_rfl

theorem laws_szWrite_y (a0 : ByteArray) (a1 : ByteArray) (a2 : Bool) (a3 : Int) : execFn G4 laws_szWrite_loops Try.f62 [.agg [.str a0, .str a1, .bool a2], .int .i64 a3] [] = laws_szWrite_k (a0, (a1, a2)) a3 (fun (y : Int) => some ⟨.ret, [.int .i64 y], []⟩) := (laws_szWrite_x a0 a1 a2 a3).trans (by rw [laws_szWrite_e])

theorem laws_szWrite_l : LoopsOk G4 ⟨0, 20, laws_szWrite_loops⟩ (Try.f62.body.getD .skip) :=
  loopsOk_of (ids := []) (by kernel_rfl) (by kernel_rfl) trivial

theorem laws_szWrite_c : Contract Try.prog 62 laws_szWrite_g := by
  refine told G4_ok follows Try.func62 (c := Try.f62.body.getD .skip) (by kernel_rfl) ?_
  intro args s k r hk
  unfold laws_szWrite_g at hk
  rcases onPats_inv hk with ⟨p, q, rfl, rfl⟩ | hk
  · exact ⟨laws_szWrite_loops, laws_szWrite_q p.1.1 p.1.2.1 p.1.2.2.1 p.2.1, laws_szWrite_y p.1.1 p.1.2.1 p.1.2.2.1 p.2.1, laws_szWrite_l⟩
  cases hk

def G5 : Glob := G4.add 62 laws_szWrite_g

theorem G5_ok : GlobOk Try.prog G5 := G4_ok.add ⟨Try.f62, Try.func62, by kernel_rfl, by kernel_rfl⟩ laws_szWrite_c

/-! ### loop.example/g00327/laws.szWriteS -/

def laws_szWriteS_loops : Nat → Option LoopSpec
  | 0 => some ⟨[0, 1, 4, 5], [], fun vals st k => onPats [.lst tWrite, .int .i64, .int .i64, .int .i64] [] vals st (fun p q => loopK laws_szWriteS_b0 Fuel (p.1, p.2.1, p.2.2.1, p.2.2.2.1) (Sum.elim (fun z => k .ret [.lst tWrite z.1, .int .i64 z.2.1, .int .i64 z.2.2.1, .int .i64 z.2.2.2] []) (fun z => k (.exit 0) [.lst tWrite z.1, .int .i64 z.2.1, .int .i64 z.2.2.1, .int .i64 z.2.2.2] [])))
      (none)⟩
  | _ => none

def laws_szWriteS_v0 : ((List dWrite) × Int × Int × Int) → List AV := (fun x => [.lst tWrite x.1, .int .i64 x.2.1, .int .i64 x.2.2.1, .int .i64 x.2.2.2])
def laws_szWriteS_s0 : ((List dWrite) × Int × Int × Int) → St := (fun x => [])
def laws_szWriteS_e0 : (((List dWrite) × Int × Int × Int) ⊕ ((List dWrite) × Int × Int × Int)) → Out × List AV × St := (Sum.elim (fun z => (.ret, [.lst tWrite z.1, .int .i64 z.2.1, .int .i64 z.2.2.1, .int .i64 z.2.2.2], [])) (fun z => ((.exit 0), [.lst tWrite z.1, .int .i64 z.2.1, .int .i64 z.2.2.1, .int .i64 z.2.2.2], [])))

theorem laws_szWriteS_bx0 (x : ((List dWrite) × Int × Int × Int)) : exec G5 ⟨0, 27, laws_szWriteS_loops⟩ (loopBody Try.f39 0) (bodyK ⟨0, 27, laws_szWriteS_loops⟩ [0, 1, 4, 5] []) (setEs (deads 27) [0, 1, 4, 5] (laws_szWriteS_v0 x)) (laws_szWriteS_s0 x) = laws_szWriteS_b0 x (Sum.elim (fun y => some ⟨.norm, laws_szWriteS_v0 y, laws_szWriteS_s0 y⟩) fun z => some ⟨(laws_szWriteS_e0 z).1, (laws_szWriteS_e0 z).2.1, (laws_szWriteS_e0 z).2.2⟩) := by
  kernel_rfl

theorem laws_szWriteS_lo0 : ∀ sp, (laws_szWriteS_loops 0) = some sp → LoopOk G5 ⟨0, 27, laws_szWriteS_loops⟩ sp (loopBody Try.f39 0) := by
  intro sp hsp vals st k r h
  cases hsp
  dsimp only at h
  rcases onPats_inv2 h with ⟨p, q, rfl, rfl, h⟩ | h
  · exact loop_runs2 laws_szWriteS_bp0 laws_szWriteS_v0 laws_szWriteS_s0 laws_szWriteS_e0 (fun z => by rcases z with z | z <;> (intro h; cases h)) laws_szWriteS_bx0 Fuel (p.1, p.2.1, p.2.2.1, p.2.2.2.1) _ k r (fun z => by rcases z with z | z <;> rfl) h
  cases h

theorem laws_szWriteS_x (a0 : (List dWrite)) (a1 : Int) : execFn G5 laws_szWriteS_loops Try.f39 [.lst tWrite a0, .int .i64 a1] [] = laws_szWriteS_d a0 a1 (fun (y : Int) => some ⟨.ret, [.int .i64 y], []⟩) := by kernel_rfl

theorem laws_szWriteS_y (a0 : (List dWrite)) (a1 : Int) : execFn G5 laws_szWriteS_loops Try.f39 [.lst tWrite a0, .int .i64 a1] [] = laws_szWriteS_k a0 a1 (fun (y : Int) => some ⟨.ret, [.int .i64 y], []⟩) := (laws_szWriteS_x a0 a1).trans (by rw [laws_szWriteS_e])

theorem laws_szWriteS_l : LoopsOk G5 ⟨0, 27, laws_szWriteS_loops⟩ (Try.f39.body.getD .skip) :=
  loopsOk_of (ids := [0]) (by kernel_rfl) (by kernel_rfl) ⟨laws_szWriteS_lo0, trivial⟩

theorem laws_szWriteS_c : Contract Try.prog 39 laws_szWriteS_g := by
  refine told G5_ok follows Try.func39 (c := Try.f39.body.getD .skip) (by kernel_rfl) ?_
  intro args s k r hk
  unfold laws_szWriteS_g at hk
  rcases onPats_inv hk with ⟨p, q, rfl, rfl⟩ | hk
  · exact ⟨laws_szWriteS_loops, laws_szWriteS_q p.1 p.2.1, laws_szWriteS_y p.1 p.2.1, laws_szWriteS_l⟩
  cases hk

def G6 : Glob := G5.add 39 laws_szWriteS_g

theorem G6_ok : GlobOk Try.prog G6 := G5_ok.add ⟨Try.f39, Try.func39, by kernel_rfl, by kernel_rfl⟩ laws_szWriteS_c

/-! ### loop.example/g00327/laws.szTxn -/

def laws_szTxn_loops : Nat → Option LoopSpec
  | _ => none

theorem laws_szTxn_x (a0 : Int) (a1 : Int) (a2 : Int) (a3 : Int) (a4 : (List dRange)) (a5 : (List dWrite)) (a6 : Bool) (a7 : ByteArray) (a8 : Int) : execFn G6 laws_szTxn_loops Try.f20 [.agg [.int .i64 a0, .int .i64 a1, .int .i64 a2, .int .i64 a3, .lst tRange a4, .lst tWrite a5, .bool a6, .str a7], .int .i64 a8] [] = laws_szTxn_d (a0, (a1, (a2, (a3, (a4, (a5, (a6, a7))))))) a8 (fun (y : Int) => some ⟨.ret, [.int .i64 y], []⟩) := by kernel_rfl

theorem laws_szTxn_y (a0 : Int) (a1 : Int) (a2 : Int) (a3 : Int) (a4 : (List dRange)) (a5 : (List dWrite)) (a6 : Bool) (a7 : ByteArray) (a8 : Int) : execFn G6 laws_szTxn_loops Try.f20 [.agg [.int .i64 a0, .int .i64 a1, .int .i64 a2, .int .i64 a3, .lst tRange a4, .lst tWrite a5, .bool a6, .str a7], .int .i64 a8] [] = laws_szTxn_k (a0, (a1, (a2, (a3, (a4, (a5, (a6, a7))))))) a8 (fun (y : Int) => some ⟨.ret, [.int .i64 y], []⟩) := (laws_szTxn_x a0 a1 a2 a3 a4 a5 a6 a7 a8).trans (by rw [laws_szTxn_e])

theorem laws_szTxn_l : LoopsOk G6 ⟨0, 25, laws_szTxn_loops⟩ (Try.f20.body.getD .skip) :=
  loopsOk_of (ids := []) (by kernel_rfl) (by kernel_rfl) trivial

theorem laws_szTxn_c : Contract Try.prog 20 laws_szTxn_g := by
  refine told G6_ok follows Try.func20 (c := Try.f20.body.getD .skip) (by kernel_rfl) ?_
  intro args s k r hk
  unfold laws_szTxn_g at hk
  rcases onPats_inv hk with ⟨p, q, rfl, rfl⟩ | hk
  · exact ⟨laws_szTxn_loops, laws_szTxn_q p.1.1 p.1.2.1 p.1.2.2.1 p.1.2.2.2.1 p.1.2.2.2.2.1 p.1.2.2.2.2.2.1 p.1.2.2.2.2.2.2.1 p.1.2.2.2.2.2.2.2.1 p.2.1, laws_szTxn_y p.1.1 p.1.2.1 p.1.2.2.1 p.1.2.2.2.1 p.1.2.2.2.2.1 p.1.2.2.2.2.2.1 p.1.2.2.2.2.2.2.1 p.1.2.2.2.2.2.2.2.1 p.2.1, laws_szTxn_l⟩
  cases hk

def G7 : Glob := G6.add 20 laws_szTxn_g

theorem G7_ok : GlobOk Try.prog G7 := G6_ok.add ⟨Try.f20, Try.func20, by kernel_rfl, by kernel_rfl⟩ laws_szTxn_c

/-! ### loop.example/g00327/laws.szTxnS -/

def laws_szTxnS_loops : Nat → Option LoopSpec
  | 0 => some ⟨[0, 1, 4, 5], [], fun vals st k => onPats [.lst tTxn, .int .i64, .int .i64, .int .i64] [] vals st (fun p q => loopK laws_szTxnS_b0 Fuel (p.1, p.2.1, p.2.2.1, p.2.2.2.1) (Sum.elim (fun z => k .ret [.lst tTxn z.1, .int .i64 z.2.1, .int .i64 z.2.2.1, .int .i64 z.2.2.2] []) (fun z => k (.exit 0) [.lst tTxn z.1, .int .i64 z.2.1, .int .i64 z.2.2.1, .int .i64 z.2.2.2] [])))
      (none)⟩
  | _ => none

def laws_szTxnS_v0 : ((List dTxn) × Int × Int × Int) → List AV := (fun x => [.lst tTxn x.1, .int .i64 x.2.1, .int .i64 x.2.2.1, .int .i64 x.2.2.2])
def laws_szTxnS_s0 : ((List dTxn) × Int × Int × Int) → St := (fun x => [])
def laws_szTxnS_e0 : (((List dTxn) × Int × Int × Int) ⊕ ((List dTxn) × Int × Int × Int)) → Out × List AV × St := (Sum.elim (fun z => (.ret, [.lst tTxn z.1, .int .i64 z.2.1, .int .i64 z.2.2.1, .int .i64 z.2.2.2], [])) (fun z => ((.exit 0), [.lst tTxn z.1, .int .i64 z.2.1, .int .i64 z.2.2.1, .int .i64 z.2.2.2], [])))

theorem laws_szTxnS_bx0 (x : ((List dTxn) × Int × Int × Int)) : exec G7 ⟨0, 27, laws_szTxnS_loops⟩ (loopBody Try.f79 0) (bodyK ⟨0, 27, laws_szTxnS_loops⟩ [0, 1, 4, 5] []) (setEs (deads 27) [0, 1, 4, 5] (laws_szTxnS_v0 x)) (laws_szTxnS_s0 x) = laws_szTxnS_b0 x (Sum.elim (fun y => some ⟨.norm, laws_szTxnS_v0 y, laws_szTxnS_s0 y⟩) fun z => some ⟨(laws_szTxnS_e0 z).1, (laws_szTxnS_e0 z).2.1, (laws_szTxnS_e0 z).2.2⟩) := by
  kernel_rfl

theorem laws_szTxnS_lo0 : ∀ sp, (laws_szTxnS_loops 0) = some sp → LoopOk G7 ⟨0, 27, laws_szTxnS_loops⟩ sp (loopBody Try.f79 0) := by
  intro sp hsp vals st k r h
  cases hsp
  dsimp only at h
  rcases onPats_inv2 h with ⟨p, q, rfl, rfl, h⟩ | h
  · exact loop_runs2 laws_szTxnS_bp0 laws_szTxnS_v0 laws_szTxnS_s0 laws_szTxnS_e0 (fun z => by rcases z with z | z <;> (intro h; cases h)) laws_szTxnS_bx0 Fuel (p.1, p.2.1, p.2.2.1, p.2.2.2.1) _ k r (fun z => by rcases z with z | z <;> rfl) h
  cases h

theorem laws_szTxnS_x (a0 : (List dTxn)) (a1 : Int) : execFn G7 laws_szTxnS_loops Try.f79 [.lst tTxn a0, .int .i64 a1] [] = laws_szTxnS_d a0 a1 (fun (y : Int) => some ⟨.ret, [.int .i64 y], []⟩) := by kernel_rfl

theorem laws_szTxnS_y (a0 : (List dTxn)) (a1 : Int) : execFn G7 laws_szTxnS_loops Try.f79 [.lst tTxn a0, .int .i64 a1] [] = laws_szTxnS_k a0 a1 (fun (y : Int) => some ⟨.ret, [.int .i64 y], []⟩) := (laws_szTxnS_x a0 a1).trans (by rw [laws_szTxnS_e])

theorem laws_szTxnS_l : LoopsOk G7 ⟨0, 27, laws_szTxnS_loops⟩ (Try.f79.body.getD .skip) :=
  loopsOk_of (ids := [0]) (by kernel_rfl) (by kernel_rfl) ⟨laws_szTxnS_lo0, trivial⟩

theorem laws_szTxnS_c : Contract Try.prog 79 laws_szTxnS_g := by
  refine told G7_ok follows Try.func79 (c := Try.f79.body.getD .skip) (by kernel_rfl) ?_
  intro args s k r hk
  unfold laws_szTxnS_g at hk
  rcases onPats_inv hk with ⟨p, q, rfl, rfl⟩ | hk
  · exact ⟨laws_szTxnS_loops, laws_szTxnS_q p.1 p.2.1, laws_szTxnS_y p.1 p.2.1, laws_szTxnS_l⟩
  cases hk

def G8 : Glob := G7.add 79 laws_szTxnS_g

theorem G8_ok : GlobOk Try.prog G8 := G7_ok.add ⟨Try.f79, Try.func79, by kernel_rfl, by kernel_rfl⟩ laws_szTxnS_c

/-! ### loop.example/g00327/laws.szBase -/

def laws_szBase_loops : Nat → Option LoopSpec
  | _ => none

theorem laws_szBase_x (a0 : (List dVersion)) (a1 : (List dTxn)) (a2 : (List dTxn)) (a3 : Int) (a4 : Int) (a5 : Int) : execFn G8 laws_szBase_loops Try.f15 [.agg [.lst tVersion a0, .lst tTxn a1, .lst tTxn a2, .int .i64 a3, .int .i64 a4], .int .i64 a5] [] = laws_szBase_d (a0, (a1, (a2, (a3, a4)))) a5 (fun (y : Int) => some ⟨.ret, [.int .i64 y], []⟩) := by kernel_rfl

theorem laws_szBase_y (a0 : (List dVersion)) (a1 : (List dTxn)) (a2 : (List dTxn)) (a3 : Int) (a4 : Int) (a5 : Int) : execFn G8 laws_szBase_loops Try.f15 [.agg [.lst tVersion a0, .lst tTxn a1, .lst tTxn a2, .int .i64 a3, .int .i64 a4], .int .i64 a5] [] = laws_szBase_k (a0, (a1, (a2, (a3, a4)))) a5 (fun (y : Int) => some ⟨.ret, [.int .i64 y], []⟩) := (laws_szBase_x a0 a1 a2 a3 a4 a5).trans (by rw [laws_szBase_e])

theorem laws_szBase_l : LoopsOk G8 ⟨0, 24, laws_szBase_loops⟩ (Try.f15.body.getD .skip) :=
  loopsOk_of (ids := []) (by kernel_rfl) (by kernel_rfl) trivial

theorem laws_szBase_c : Contract Try.prog 15 laws_szBase_g := by
  refine told G8_ok follows Try.func15 (c := Try.f15.body.getD .skip) (by kernel_rfl) ?_
  intro args s k r hk
  unfold laws_szBase_g at hk
  rcases onPats_inv hk with ⟨p, q, rfl, rfl⟩ | hk
  · exact ⟨laws_szBase_loops, laws_szBase_q p.1.1 p.1.2.1 p.1.2.2.1 p.1.2.2.2.1 p.1.2.2.2.2.1 p.2.1, laws_szBase_y p.1.1 p.1.2.1 p.1.2.2.1 p.1.2.2.2.1 p.1.2.2.2.2.1 p.2.1, laws_szBase_l⟩
  cases hk

def G9 : Glob := G8.add 15 laws_szBase_g

theorem G9_ok : GlobOk Try.prog G9 := G8_ok.add ⟨Try.f15, Try.func15, by kernel_rfl, by kernel_rfl⟩ laws_szBase_c

/-! ### loop.example/g00327/laws.szEngine -/

def laws_szEngine_loops : Nat → Option LoopSpec
  | _ => none

theorem laws_szEngine_x (a0 : (List dVersion)) (a1 : (List dTxn)) (a2 : (List dTxn)) (a3 : Int) (a4 : Int) (a5 : (List dTxn)) (a6 : Int) : execFn G9 laws_szEngine_loops Try.f49 [.agg [.lst tVersion a0, .lst tTxn a1, .lst tTxn a2, .int .i64 a3, .int .i64 a4, .lst tTxn a5], .int .i64 a6] [] = laws_szEngine_d ((a0, (a1, (a2, (a3, a4)))), a5) a6 (fun (y : Int) => some ⟨.ret, [.int .i64 y], []⟩) := by kernel_rfl

theorem laws_szEngine_y (a0 : (List dVersion)) (a1 : (List dTxn)) (a2 : (List dTxn)) (a3 : Int) (a4 : Int) (a5 : (List dTxn)) (a6 : Int) : execFn G9 laws_szEngine_loops Try.f49 [.agg [.lst tVersion a0, .lst tTxn a1, .lst tTxn a2, .int .i64 a3, .int .i64 a4, .lst tTxn a5], .int .i64 a6] [] = laws_szEngine_k ((a0, (a1, (a2, (a3, a4)))), a5) a6 (fun (y : Int) => some ⟨.ret, [.int .i64 y], []⟩) := (laws_szEngine_x a0 a1 a2 a3 a4 a5 a6).trans (by rw [laws_szEngine_e])

theorem laws_szEngine_l : LoopsOk G9 ⟨0, 18, laws_szEngine_loops⟩ (Try.f49.body.getD .skip) :=
  loopsOk_of (ids := []) (by kernel_rfl) (by kernel_rfl) trivial

theorem laws_szEngine_c : Contract Try.prog 49 laws_szEngine_g := by
  refine told G9_ok follows Try.func49 (c := Try.f49.body.getD .skip) (by kernel_rfl) ?_
  intro args s k r hk
  unfold laws_szEngine_g at hk
  rcases onPats_inv hk with ⟨p, q, rfl, rfl⟩ | hk
  · exact ⟨laws_szEngine_loops, laws_szEngine_q p.1.1 p.1.2.1 p.1.2.2.1 p.1.2.2.2.1 p.1.2.2.2.2.1 p.1.2.2.2.2.2.1 p.2.1, laws_szEngine_y p.1.1 p.1.2.1 p.1.2.2.1 p.1.2.2.2.1 p.1.2.2.2.2.1 p.1.2.2.2.2.2.1 p.2.1, laws_szEngine_l⟩
  cases hk

def G10 : Glob := G9.add 49 laws_szEngine_g

theorem G10_ok : GlobOk Try.prog G10 := G9_ok.add ⟨Try.f49, Try.func49, by kernel_rfl, by kernel_rfl⟩ laws_szEngine_c

/-! ### loop.example/g00327/laws.toVersion -/

def laws_toVersion_loops : Nat → Option LoopSpec
  | _ => none

theorem laws_toVersion_x (a0 : ByteArray) (a1 : ByteArray) (a2 : Bool) (a3 : Int) : execFn G10 laws_toVersion_loops Try.f118 [.agg [.str a0, .str a1, .bool a2, .int .i64 a3]] [] = laws_toVersion_d (a0, (a1, (a2, a3))) (fun (y : (ByteArray × ByteArray × Bool × Int)) => some ⟨.ret, [.agg [.str y.1, .str y.2.1, .bool y.2.2.1, .int .i64 y.2.2.2]], []⟩) := by kernel_rfl

theorem laws_toVersion_y (a0 : ByteArray) (a1 : ByteArray) (a2 : Bool) (a3 : Int) : execFn G10 laws_toVersion_loops Try.f118 [.agg [.str a0, .str a1, .bool a2, .int .i64 a3]] [] = laws_toVersion_k (a0, (a1, (a2, a3))) (fun (y : (ByteArray × ByteArray × Bool × Int)) => some ⟨.ret, [.agg [.str y.1, .str y.2.1, .bool y.2.2.1, .int .i64 y.2.2.2]], []⟩) := (laws_toVersion_x a0 a1 a2 a3).trans (by rw [laws_toVersion_e])

theorem laws_toVersion_l : LoopsOk G10 ⟨0, 17, laws_toVersion_loops⟩ (Try.f118.body.getD .skip) :=
  loopsOk_of (ids := []) (by kernel_rfl) (by kernel_rfl) trivial

theorem laws_toVersion_c : Contract Try.prog 118 laws_toVersion_g := by
  refine told G10_ok follows Try.func118 (c := Try.f118.body.getD .skip) (by kernel_rfl) ?_
  intro args s k r hk
  unfold laws_toVersion_g at hk
  rcases onPats_inv hk with ⟨p, q, rfl, rfl⟩ | hk
  · exact ⟨laws_toVersion_loops, laws_toVersion_q p.1.1 p.1.2.1 p.1.2.2.1 p.1.2.2.2.1, laws_toVersion_y p.1.1 p.1.2.1 p.1.2.2.1 p.1.2.2.2.1, laws_toVersion_l⟩
  cases hk

def G11 : Glob := G10.add 118 laws_toVersion_g

theorem G11_ok : GlobOk Try.prog G11 := G10_ok.add ⟨Try.f118, Try.func118, by kernel_rfl, by kernel_rfl⟩ laws_toVersion_c

/-! ### loop.example/g00327/laws.toVersionS -/

def laws_toVersionS_loops : Nat → Option LoopSpec
  | 0 => some ⟨[0, 3, 4], [], fun vals st k => onPats [.lst tVersion, .own 0, .int .i64] [.arr tVersion] vals st (fun p q => loopK laws_toVersionS_b0 Fuel (p.1, p.2.2.1, q.1) (fun z => k (.exit 0) [.lst tVersion z.1, .own 0, .int .i64 z.2.1] [.arr tVersion z.2.2]))
      (none)⟩
  | _ => none

def laws_toVersionS_v0 : ((List dVersion) × Int × (List dVersion)) → List AV := (fun x => [.lst tVersion x.1, .own 0, .int .i64 x.2.1])
def laws_toVersionS_s0 : ((List dVersion) × Int × (List dVersion)) → St := (fun x => [.arr tVersion x.2.2])
def laws_toVersionS_e0 : ((List dVersion) × Int × (List dVersion)) → Out × List AV × St := (fun z => ((.exit 0), [.lst tVersion z.1, .own 0, .int .i64 z.2.1], [.arr tVersion z.2.2]))

theorem laws_toVersionS_bx0 (x : ((List dVersion) × Int × (List dVersion))) : exec G11 ⟨0, 23, laws_toVersionS_loops⟩ (loopBody Try.f41 0) (bodyK ⟨0, 23, laws_toVersionS_loops⟩ [0, 3, 4] []) (setEs (deads 23) [0, 3, 4] (laws_toVersionS_v0 x)) (laws_toVersionS_s0 x) = laws_toVersionS_b0 x (Sum.elim (fun y => some ⟨.norm, laws_toVersionS_v0 y, laws_toVersionS_s0 y⟩) fun z => some ⟨(laws_toVersionS_e0 z).1, (laws_toVersionS_e0 z).2.1, (laws_toVersionS_e0 z).2.2⟩) := by
  kernel_rfl

theorem laws_toVersionS_lo0 : ∀ sp, (laws_toVersionS_loops 0) = some sp → LoopOk G11 ⟨0, 23, laws_toVersionS_loops⟩ sp (loopBody Try.f41 0) := by
  intro sp hsp vals st k r h
  cases hsp
  dsimp only at h
  rcases onPats_inv2 h with ⟨p, q, rfl, rfl, h⟩ | h
  · exact loop_runs2 laws_toVersionS_bp0 laws_toVersionS_v0 laws_toVersionS_s0 laws_toVersionS_e0 (fun z => by (intro h; cases h)) laws_toVersionS_bx0 Fuel (p.1, p.2.2.1, q.1) _ k r (fun z => rfl) h
  cases h

theorem laws_toVersionS_x (a0 : (List dVersion)) : execFn G11 laws_toVersionS_loops Try.f41 [.lst tVersion a0] [] = laws_toVersionS_d a0 (fun (y : (List dVersion)) => some ⟨.ret, [.own 0], [.arr tVersion y]⟩) := by kernel_rfl

theorem laws_toVersionS_y (a0 : (List dVersion)) : execFn G11 laws_toVersionS_loops Try.f41 [.lst tVersion a0] [] = laws_toVersionS_k a0 (fun (y : (List dVersion)) => some ⟨.ret, [.own 0], [.arr tVersion y]⟩) := (laws_toVersionS_x a0).trans (by rw [laws_toVersionS_e])

theorem laws_toVersionS_l : LoopsOk G11 ⟨0, 23, laws_toVersionS_loops⟩ (Try.f41.body.getD .skip) :=
  loopsOk_of (ids := [0]) (by kernel_rfl) (by kernel_rfl) ⟨laws_toVersionS_lo0, trivial⟩

theorem laws_toVersionS_c : Contract Try.prog 41 laws_toVersionS_g := by
  refine told G11_ok follows Try.func41 (c := Try.f41.body.getD .skip) (by kernel_rfl) ?_
  intro args s k r hk
  unfold laws_toVersionS_g at hk
  rcases onPats_inv hk with ⟨p, q, rfl, rfl⟩ | hk
  · exact ⟨laws_toVersionS_loops, laws_toVersionS_q p.1, laws_toVersionS_y p.1, laws_toVersionS_l⟩
  cases hk

def G12 : Glob := G11.add 41 laws_toVersionS_g

theorem G12_ok : GlobOk Try.prog G12 := G11_ok.add ⟨Try.f41, Try.func41, by kernel_rfl, by kernel_rfl⟩ laws_toVersionS_c

/-! ### loop.example/g00327/laws.toRange -/

def laws_toRange_loops : Nat → Option LoopSpec
  | _ => none

theorem laws_toRange_x (a0 : ByteArray) (a1 : ByteArray) : execFn G12 laws_toRange_loops Try.f56 [.agg [.str a0, .str a1]] [] = laws_toRange_d (a0, a1) (fun (y : (ByteArray × ByteArray)) => some ⟨.ret, [.agg [.str y.1, .str y.2]], []⟩) := by kernel_rfl

theorem laws_toRange_y (a0 : ByteArray) (a1 : ByteArray) : execFn G12 laws_toRange_loops Try.f56 [.agg [.str a0, .str a1]] [] = laws_toRange_k (a0, a1) (fun (y : (ByteArray × ByteArray)) => some ⟨.ret, [.agg [.str y.1, .str y.2]], []⟩) := (laws_toRange_x a0 a1).trans (by rw [laws_toRange_e])

theorem laws_toRange_l : LoopsOk G12 ⟨0, 11, laws_toRange_loops⟩ (Try.f56.body.getD .skip) :=
  loopsOk_of (ids := []) (by kernel_rfl) (by kernel_rfl) trivial

theorem laws_toRange_c : Contract Try.prog 56 laws_toRange_g := by
  refine told G12_ok follows Try.func56 (c := Try.f56.body.getD .skip) (by kernel_rfl) ?_
  intro args s k r hk
  unfold laws_toRange_g at hk
  rcases onPats_inv hk with ⟨p, q, rfl, rfl⟩ | hk
  · exact ⟨laws_toRange_loops, laws_toRange_q p.1.1 p.1.2.1, laws_toRange_y p.1.1 p.1.2.1, laws_toRange_l⟩
  cases hk

def G13 : Glob := G12.add 56 laws_toRange_g

theorem G13_ok : GlobOk Try.prog G13 := G12_ok.add ⟨Try.f56, Try.func56, by kernel_rfl, by kernel_rfl⟩ laws_toRange_c

/-! ### loop.example/g00327/laws.toRangeS -/

def laws_toRangeS_loops : Nat → Option LoopSpec
  | 0 => some ⟨[0, 3, 4], [], fun vals st k => onPats [.lst tRange, .own 0, .int .i64] [.arr tRange] vals st (fun p q => loopK laws_toRangeS_b0 Fuel (p.1, p.2.2.1, q.1) (fun z => k (.exit 0) [.lst tRange z.1, .own 0, .int .i64 z.2.1] [.arr tRange z.2.2]))
      (none)⟩
  | _ => none

def laws_toRangeS_v0 : ((List dRange) × Int × (List dRange)) → List AV := (fun x => [.lst tRange x.1, .own 0, .int .i64 x.2.1])
def laws_toRangeS_s0 : ((List dRange) × Int × (List dRange)) → St := (fun x => [.arr tRange x.2.2])
def laws_toRangeS_e0 : ((List dRange) × Int × (List dRange)) → Out × List AV × St := (fun z => ((.exit 0), [.lst tRange z.1, .own 0, .int .i64 z.2.1], [.arr tRange z.2.2]))

theorem laws_toRangeS_bx0 (x : ((List dRange) × Int × (List dRange))) : exec G13 ⟨0, 23, laws_toRangeS_loops⟩ (loopBody Try.f89 0) (bodyK ⟨0, 23, laws_toRangeS_loops⟩ [0, 3, 4] []) (setEs (deads 23) [0, 3, 4] (laws_toRangeS_v0 x)) (laws_toRangeS_s0 x) = laws_toRangeS_b0 x (Sum.elim (fun y => some ⟨.norm, laws_toRangeS_v0 y, laws_toRangeS_s0 y⟩) fun z => some ⟨(laws_toRangeS_e0 z).1, (laws_toRangeS_e0 z).2.1, (laws_toRangeS_e0 z).2.2⟩) := by
  kernel_rfl

theorem laws_toRangeS_lo0 : ∀ sp, (laws_toRangeS_loops 0) = some sp → LoopOk G13 ⟨0, 23, laws_toRangeS_loops⟩ sp (loopBody Try.f89 0) := by
  intro sp hsp vals st k r h
  cases hsp
  dsimp only at h
  rcases onPats_inv2 h with ⟨p, q, rfl, rfl, h⟩ | h
  · exact loop_runs2 laws_toRangeS_bp0 laws_toRangeS_v0 laws_toRangeS_s0 laws_toRangeS_e0 (fun z => by (intro h; cases h)) laws_toRangeS_bx0 Fuel (p.1, p.2.2.1, q.1) _ k r (fun z => rfl) h
  cases h

theorem laws_toRangeS_x (a0 : (List dRange)) : execFn G13 laws_toRangeS_loops Try.f89 [.lst tRange a0] [] = laws_toRangeS_d a0 (fun (y : (List dRange)) => some ⟨.ret, [.own 0], [.arr tRange y]⟩) := by kernel_rfl

theorem laws_toRangeS_y (a0 : (List dRange)) : execFn G13 laws_toRangeS_loops Try.f89 [.lst tRange a0] [] = laws_toRangeS_k a0 (fun (y : (List dRange)) => some ⟨.ret, [.own 0], [.arr tRange y]⟩) := (laws_toRangeS_x a0).trans (by rw [laws_toRangeS_e])

theorem laws_toRangeS_l : LoopsOk G13 ⟨0, 23, laws_toRangeS_loops⟩ (Try.f89.body.getD .skip) :=
  loopsOk_of (ids := [0]) (by kernel_rfl) (by kernel_rfl) ⟨laws_toRangeS_lo0, trivial⟩

theorem laws_toRangeS_c : Contract Try.prog 89 laws_toRangeS_g := by
  refine told G13_ok follows Try.func89 (c := Try.f89.body.getD .skip) (by kernel_rfl) ?_
  intro args s k r hk
  unfold laws_toRangeS_g at hk
  rcases onPats_inv hk with ⟨p, q, rfl, rfl⟩ | hk
  · exact ⟨laws_toRangeS_loops, laws_toRangeS_q p.1, laws_toRangeS_y p.1, laws_toRangeS_l⟩
  cases hk

def G14 : Glob := G13.add 89 laws_toRangeS_g

theorem G14_ok : GlobOk Try.prog G14 := G13_ok.add ⟨Try.f89, Try.func89, by kernel_rfl, by kernel_rfl⟩ laws_toRangeS_c

/-! ### loop.example/g00327/laws.toWrite -/

def laws_toWrite_loops : Nat → Option LoopSpec
  | _ => none

theorem laws_toWrite_x (a0 : ByteArray) (a1 : ByteArray) (a2 : Bool) : execFn G14 laws_toWrite_loops Try.f64 [.agg [.str a0, .str a1, .bool a2]] [] = laws_toWrite_d (a0, (a1, a2)) (fun (y : (ByteArray × ByteArray × Bool)) => some ⟨.ret, [.agg [.str y.1, .str y.2.1, .bool y.2.2]], []⟩) := by kernel_rfl

theorem laws_toWrite_y (a0 : ByteArray) (a1 : ByteArray) (a2 : Bool) : execFn G14 laws_toWrite_loops Try.f64 [.agg [.str a0, .str a1, .bool a2]] [] = laws_toWrite_k (a0, (a1, a2)) (fun (y : (ByteArray × ByteArray × Bool)) => some ⟨.ret, [.agg [.str y.1, .str y.2.1, .bool y.2.2]], []⟩) := (laws_toWrite_x a0 a1 a2).trans (by rw [laws_toWrite_e])

theorem laws_toWrite_l : LoopsOk G14 ⟨0, 14, laws_toWrite_loops⟩ (Try.f64.body.getD .skip) :=
  loopsOk_of (ids := []) (by kernel_rfl) (by kernel_rfl) trivial

theorem laws_toWrite_c : Contract Try.prog 64 laws_toWrite_g := by
  refine told G14_ok follows Try.func64 (c := Try.f64.body.getD .skip) (by kernel_rfl) ?_
  intro args s k r hk
  unfold laws_toWrite_g at hk
  rcases onPats_inv hk with ⟨p, q, rfl, rfl⟩ | hk
  · exact ⟨laws_toWrite_loops, laws_toWrite_q p.1.1 p.1.2.1 p.1.2.2.1, laws_toWrite_y p.1.1 p.1.2.1 p.1.2.2.1, laws_toWrite_l⟩
  cases hk

def G15 : Glob := G14.add 64 laws_toWrite_g

theorem G15_ok : GlobOk Try.prog G15 := G14_ok.add ⟨Try.f64, Try.func64, by kernel_rfl, by kernel_rfl⟩ laws_toWrite_c

/-! ### loop.example/g00327/laws.toWriteS -/

def laws_toWriteS_loops : Nat → Option LoopSpec
  | 0 => some ⟨[0, 3, 4], [], fun vals st k => onPats [.lst tWrite, .own 0, .int .i64] [.arr tWrite] vals st (fun p q => loopK laws_toWriteS_b0 Fuel (p.1, p.2.2.1, q.1) (fun z => k (.exit 0) [.lst tWrite z.1, .own 0, .int .i64 z.2.1] [.arr tWrite z.2.2]))
      (none)⟩
  | _ => none

def laws_toWriteS_v0 : ((List dWrite) × Int × (List dWrite)) → List AV := (fun x => [.lst tWrite x.1, .own 0, .int .i64 x.2.1])
def laws_toWriteS_s0 : ((List dWrite) × Int × (List dWrite)) → St := (fun x => [.arr tWrite x.2.2])
def laws_toWriteS_e0 : ((List dWrite) × Int × (List dWrite)) → Out × List AV × St := (fun z => ((.exit 0), [.lst tWrite z.1, .own 0, .int .i64 z.2.1], [.arr tWrite z.2.2]))

theorem laws_toWriteS_bx0 (x : ((List dWrite) × Int × (List dWrite))) : exec G15 ⟨0, 23, laws_toWriteS_loops⟩ (loopBody Try.f42 0) (bodyK ⟨0, 23, laws_toWriteS_loops⟩ [0, 3, 4] []) (setEs (deads 23) [0, 3, 4] (laws_toWriteS_v0 x)) (laws_toWriteS_s0 x) = laws_toWriteS_b0 x (Sum.elim (fun y => some ⟨.norm, laws_toWriteS_v0 y, laws_toWriteS_s0 y⟩) fun z => some ⟨(laws_toWriteS_e0 z).1, (laws_toWriteS_e0 z).2.1, (laws_toWriteS_e0 z).2.2⟩) := by
  kernel_rfl

theorem laws_toWriteS_lo0 : ∀ sp, (laws_toWriteS_loops 0) = some sp → LoopOk G15 ⟨0, 23, laws_toWriteS_loops⟩ sp (loopBody Try.f42 0) := by
  intro sp hsp vals st k r h
  cases hsp
  dsimp only at h
  rcases onPats_inv2 h with ⟨p, q, rfl, rfl, h⟩ | h
  · exact loop_runs2 laws_toWriteS_bp0 laws_toWriteS_v0 laws_toWriteS_s0 laws_toWriteS_e0 (fun z => by (intro h; cases h)) laws_toWriteS_bx0 Fuel (p.1, p.2.2.1, q.1) _ k r (fun z => rfl) h
  cases h

theorem laws_toWriteS_x (a0 : (List dWrite)) : execFn G15 laws_toWriteS_loops Try.f42 [.lst tWrite a0] [] = laws_toWriteS_d a0 (fun (y : (List dWrite)) => some ⟨.ret, [.own 0], [.arr tWrite y]⟩) := by kernel_rfl

theorem laws_toWriteS_y (a0 : (List dWrite)) : execFn G15 laws_toWriteS_loops Try.f42 [.lst tWrite a0] [] = laws_toWriteS_k a0 (fun (y : (List dWrite)) => some ⟨.ret, [.own 0], [.arr tWrite y]⟩) := (laws_toWriteS_x a0).trans (by rw [laws_toWriteS_e])

theorem laws_toWriteS_l : LoopsOk G15 ⟨0, 23, laws_toWriteS_loops⟩ (Try.f42.body.getD .skip) :=
  loopsOk_of (ids := [0]) (by kernel_rfl) (by kernel_rfl) ⟨laws_toWriteS_lo0, trivial⟩

theorem laws_toWriteS_c : Contract Try.prog 42 laws_toWriteS_g := by
  refine told G15_ok follows Try.func42 (c := Try.f42.body.getD .skip) (by kernel_rfl) ?_
  intro args s k r hk
  unfold laws_toWriteS_g at hk
  rcases onPats_inv hk with ⟨p, q, rfl, rfl⟩ | hk
  · exact ⟨laws_toWriteS_loops, laws_toWriteS_q p.1, laws_toWriteS_y p.1, laws_toWriteS_l⟩
  cases hk

def G16 : Glob := G15.add 42 laws_toWriteS_g

theorem G16_ok : GlobOk Try.prog G16 := G15_ok.add ⟨Try.f42, Try.func42, by kernel_rfl, by kernel_rfl⟩ laws_toWriteS_c

/-! ### loop.example/g00327/laws.toTxn -/

def laws_toTxn_loops : Nat → Option LoopSpec
  | _ => none

theorem laws_toTxn_x (a0 : Int) (a1 : Int) (a2 : Int) (a3 : Int) (a4 : (List dRange)) (a5 : (List dWrite)) (a6 : Bool) (a7 : ByteArray) : execFn G16 laws_toTxn_loops Try.f22 [.agg [.int .i64 a0, .int .i64 a1, .int .i64 a2, .int .i64 a3, .lst tRange a4, .lst tWrite a5, .bool a6, .str a7]] [] = laws_toTxn_d (a0, (a1, (a2, (a3, (a4, (a5, (a6, a7))))))) (fun (y : (Int × Int × Int × Int × Bool × ByteArray × (List dRange) × (List dWrite))) => some ⟨.ret, [.agg [.int .i64 y.1, .int .i64 y.2.1, .int .i64 y.2.2.1, .int .i64 y.2.2.2.1, .own 0, .own 1, .bool y.2.2.2.2.1, .str y.2.2.2.2.2.1]], [.arr tRange y.2.2.2.2.2.2.1, .arr tWrite y.2.2.2.2.2.2.2]⟩) := by kernel_rfl

theorem laws_toTxn_y (a0 : Int) (a1 : Int) (a2 : Int) (a3 : Int) (a4 : (List dRange)) (a5 : (List dWrite)) (a6 : Bool) (a7 : ByteArray) : execFn G16 laws_toTxn_loops Try.f22 [.agg [.int .i64 a0, .int .i64 a1, .int .i64 a2, .int .i64 a3, .lst tRange a4, .lst tWrite a5, .bool a6, .str a7]] [] = laws_toTxn_k (a0, (a1, (a2, (a3, (a4, (a5, (a6, a7))))))) (fun (y : (Int × Int × Int × Int × Bool × ByteArray × (List dRange) × (List dWrite))) => some ⟨.ret, [.agg [.int .i64 y.1, .int .i64 y.2.1, .int .i64 y.2.2.1, .int .i64 y.2.2.2.1, .own 0, .own 1, .bool y.2.2.2.2.1, .str y.2.2.2.2.2.1]], [.arr tRange y.2.2.2.2.2.2.1, .arr tWrite y.2.2.2.2.2.2.2]⟩) := (laws_toTxn_x a0 a1 a2 a3 a4 a5 a6 a7).trans (by rw [laws_toTxn_e])

theorem laws_toTxn_l : LoopsOk G16 ⟨0, 31, laws_toTxn_loops⟩ (Try.f22.body.getD .skip) :=
  loopsOk_of (ids := []) (by kernel_rfl) (by kernel_rfl) trivial

theorem laws_toTxn_c : Contract Try.prog 22 laws_toTxn_g := by
  refine told G16_ok follows Try.func22 (c := Try.f22.body.getD .skip) (by kernel_rfl) ?_
  intro args s k r hk
  unfold laws_toTxn_g at hk
  rcases onPats_inv hk with ⟨p, q, rfl, rfl⟩ | hk
  · exact ⟨laws_toTxn_loops, laws_toTxn_q p.1.1 p.1.2.1 p.1.2.2.1 p.1.2.2.2.1 p.1.2.2.2.2.1 p.1.2.2.2.2.2.1 p.1.2.2.2.2.2.2.1 p.1.2.2.2.2.2.2.2.1, laws_toTxn_y p.1.1 p.1.2.1 p.1.2.2.1 p.1.2.2.2.1 p.1.2.2.2.2.1 p.1.2.2.2.2.2.1 p.1.2.2.2.2.2.2.1 p.1.2.2.2.2.2.2.2.1, laws_toTxn_l⟩
  cases hk

def G17 : Glob := G16.add 22 laws_toTxn_g

theorem G17_ok : GlobOk Try.prog G17 := G16_ok.add ⟨Try.f22, Try.func22, by kernel_rfl, by kernel_rfl⟩ laws_toTxn_c

/-! ### loop.example/g00327/laws.toTxnS -/

def laws_toTxnS_loops : Nat → Option LoopSpec
  | 0 => some ⟨[0, 3, 4], [], fun vals st k => onPats [.lst tTxn, .own 0, .int .i64] [.arr tTxn] vals st (fun p q => loopK laws_toTxnS_b0 Fuel (p.1, p.2.2.1, q.1) (fun z => k (.exit 0) [.lst tTxn z.1, .own 0, .int .i64 z.2.1] [.arr tTxn z.2.2]))
      (none)⟩
  | _ => none

def laws_toTxnS_v0 : ((List dTxn) × Int × (List dTxn)) → List AV := (fun x => [.lst tTxn x.1, .own 0, .int .i64 x.2.1])
def laws_toTxnS_s0 : ((List dTxn) × Int × (List dTxn)) → St := (fun x => [.arr tTxn x.2.2])
def laws_toTxnS_e0 : ((List dTxn) × Int × (List dTxn)) → Out × List AV × St := (fun z => ((.exit 0), [.lst tTxn z.1, .own 0, .int .i64 z.2.1], [.arr tTxn z.2.2]))

theorem laws_toTxnS_bx0 (x : ((List dTxn) × Int × (List dTxn))) : exec G17 ⟨0, 23, laws_toTxnS_loops⟩ (loopBody Try.f80 0) (bodyK ⟨0, 23, laws_toTxnS_loops⟩ [0, 3, 4] []) (setEs (deads 23) [0, 3, 4] (laws_toTxnS_v0 x)) (laws_toTxnS_s0 x) = laws_toTxnS_b0 x (Sum.elim (fun y => some ⟨.norm, laws_toTxnS_v0 y, laws_toTxnS_s0 y⟩) fun z => some ⟨(laws_toTxnS_e0 z).1, (laws_toTxnS_e0 z).2.1, (laws_toTxnS_e0 z).2.2⟩) := by
  kernel_rfl

theorem laws_toTxnS_lo0 : ∀ sp, (laws_toTxnS_loops 0) = some sp → LoopOk G17 ⟨0, 23, laws_toTxnS_loops⟩ sp (loopBody Try.f80 0) := by
  intro sp hsp vals st k r h
  cases hsp
  dsimp only at h
  rcases onPats_inv2 h with ⟨p, q, rfl, rfl, h⟩ | h
  · exact loop_runs2 laws_toTxnS_bp0 laws_toTxnS_v0 laws_toTxnS_s0 laws_toTxnS_e0 (fun z => by (intro h; cases h)) laws_toTxnS_bx0 Fuel (p.1, p.2.2.1, q.1) _ k r (fun z => rfl) h
  cases h

theorem laws_toTxnS_x (a0 : (List dTxn)) : execFn G17 laws_toTxnS_loops Try.f80 [.lst tTxn a0] [] = laws_toTxnS_d a0 (fun (y : (List dTxn)) => some ⟨.ret, [.own 0], [.arr tTxn y]⟩) := by kernel_rfl

theorem laws_toTxnS_y (a0 : (List dTxn)) : execFn G17 laws_toTxnS_loops Try.f80 [.lst tTxn a0] [] = laws_toTxnS_k a0 (fun (y : (List dTxn)) => some ⟨.ret, [.own 0], [.arr tTxn y]⟩) := (laws_toTxnS_x a0).trans (by rw [laws_toTxnS_e])

theorem laws_toTxnS_l : LoopsOk G17 ⟨0, 23, laws_toTxnS_loops⟩ (Try.f80.body.getD .skip) :=
  loopsOk_of (ids := [0]) (by kernel_rfl) (by kernel_rfl) ⟨laws_toTxnS_lo0, trivial⟩

theorem laws_toTxnS_c : Contract Try.prog 80 laws_toTxnS_g := by
  refine told G17_ok follows Try.func80 (c := Try.f80.body.getD .skip) (by kernel_rfl) ?_
  intro args s k r hk
  unfold laws_toTxnS_g at hk
  rcases onPats_inv hk with ⟨p, q, rfl, rfl⟩ | hk
  · exact ⟨laws_toTxnS_loops, laws_toTxnS_q p.1, laws_toTxnS_y p.1, laws_toTxnS_l⟩
  cases hk

def G18 : Glob := G17.add 80 laws_toTxnS_g

theorem G18_ok : GlobOk Try.prog G18 := G17_ok.add ⟨Try.f80, Try.func80, by kernel_rfl, by kernel_rfl⟩ laws_toTxnS_c

/-! ### loop.example/g00327/laws.toBase -/

def laws_toBase_loops : Nat → Option LoopSpec
  | _ => none

theorem laws_toBase_x (a0 : (List dVersion)) (a1 : (List dTxn)) (a2 : (List dTxn)) (a3 : Int) (a4 : Int) : execFn G18 laws_toBase_loops Try.f17 [.agg [.lst tVersion a0, .lst tTxn a1, .lst tTxn a2, .int .i64 a3, .int .i64 a4]] [] = laws_toBase_d (a0, (a1, (a2, (a3, a4)))) (fun (y : (Int × Int × (List dVersion) × (List dTxn) × (List dTxn))) => some ⟨.ret, [.agg [.own 0, .own 1, .own 2, .int .i64 y.1, .int .i64 y.2.1]], [.arr tVersion y.2.2.1, .arr tTxn y.2.2.2.1, .arr tTxn y.2.2.2.2]⟩) := by kernel_rfl

theorem laws_toBase_y (a0 : (List dVersion)) (a1 : (List dTxn)) (a2 : (List dTxn)) (a3 : Int) (a4 : Int) : execFn G18 laws_toBase_loops Try.f17 [.agg [.lst tVersion a0, .lst tTxn a1, .lst tTxn a2, .int .i64 a3, .int .i64 a4]] [] = laws_toBase_k (a0, (a1, (a2, (a3, a4)))) (fun (y : (Int × Int × (List dVersion) × (List dTxn) × (List dTxn))) => some ⟨.ret, [.agg [.own 0, .own 1, .own 2, .int .i64 y.1, .int .i64 y.2.1]], [.arr tVersion y.2.2.1, .arr tTxn y.2.2.2.1, .arr tTxn y.2.2.2.2]⟩) := (laws_toBase_x a0 a1 a2 a3 a4).trans (by rw [laws_toBase_e])

theorem laws_toBase_l : LoopsOk G18 ⟨0, 23, laws_toBase_loops⟩ (Try.f17.body.getD .skip) :=
  loopsOk_of (ids := []) (by kernel_rfl) (by kernel_rfl) trivial

theorem laws_toBase_c : Contract Try.prog 17 laws_toBase_g := by
  refine told G18_ok follows Try.func17 (c := Try.f17.body.getD .skip) (by kernel_rfl) ?_
  intro args s k r hk
  unfold laws_toBase_g at hk
  rcases onPats_inv hk with ⟨p, q, rfl, rfl⟩ | hk
  · exact ⟨laws_toBase_loops, laws_toBase_q p.1.1 p.1.2.1 p.1.2.2.1 p.1.2.2.2.1 p.1.2.2.2.2.1, laws_toBase_y p.1.1 p.1.2.1 p.1.2.2.1 p.1.2.2.2.1 p.1.2.2.2.2.1, laws_toBase_l⟩
  cases hk

def G19 : Glob := G18.add 17 laws_toBase_g

theorem G19_ok : GlobOk Try.prog G19 := G18_ok.add ⟨Try.f17, Try.func17, by kernel_rfl, by kernel_rfl⟩ laws_toBase_c

/-! ### loop.example/g00327/laws.toEngine -/

def laws_toEngine_loops : Nat → Option LoopSpec
  | _ => none

theorem laws_toEngine_x (a0 : (List dVersion)) (a1 : (List dTxn)) (a2 : (List dTxn)) (a3 : Int) (a4 : Int) (a5 : (List dTxn)) : execFn G19 laws_toEngine_loops Try.f51 [.agg [.lst tVersion a0, .lst tTxn a1, .lst tTxn a2, .int .i64 a3, .int .i64 a4, .lst tTxn a5]] [] = laws_toEngine_d ((a0, (a1, (a2, (a3, a4)))), a5) (fun (y : (Int × Int × (List dVersion) × (List dTxn) × (List dTxn) × (List dTxn))) => some ⟨.ret, [.agg [.own 0, .own 1, .own 2, .int .i64 y.1, .int .i64 y.2.1, .own 3]], [.arr tVersion y.2.2.1, .arr tTxn y.2.2.2.1, .arr tTxn y.2.2.2.2.1, .arr tTxn y.2.2.2.2.2]⟩) := by kernel_rfl

theorem laws_toEngine_y (a0 : (List dVersion)) (a1 : (List dTxn)) (a2 : (List dTxn)) (a3 : Int) (a4 : Int) (a5 : (List dTxn)) : execFn G19 laws_toEngine_loops Try.f51 [.agg [.lst tVersion a0, .lst tTxn a1, .lst tTxn a2, .int .i64 a3, .int .i64 a4, .lst tTxn a5]] [] = laws_toEngine_k ((a0, (a1, (a2, (a3, a4)))), a5) (fun (y : (Int × Int × (List dVersion) × (List dTxn) × (List dTxn) × (List dTxn))) => some ⟨.ret, [.agg [.own 0, .own 1, .own 2, .int .i64 y.1, .int .i64 y.2.1, .own 3]], [.arr tVersion y.2.2.1, .arr tTxn y.2.2.2.1, .arr tTxn y.2.2.2.2.1, .arr tTxn y.2.2.2.2.2]⟩) := (laws_toEngine_x a0 a1 a2 a3 a4 a5).trans (by rw [laws_toEngine_e])

theorem laws_toEngine_l : LoopsOk G19 ⟨0, 13, laws_toEngine_loops⟩ (Try.f51.body.getD .skip) :=
  loopsOk_of (ids := []) (by kernel_rfl) (by kernel_rfl) trivial

theorem laws_toEngine_c : Contract Try.prog 51 laws_toEngine_g := by
  refine told G19_ok follows Try.func51 (c := Try.f51.body.getD .skip) (by kernel_rfl) ?_
  intro args s k r hk
  unfold laws_toEngine_g at hk
  rcases onPats_inv hk with ⟨p, q, rfl, rfl⟩ | hk
  · exact ⟨laws_toEngine_loops, laws_toEngine_q p.1.1 p.1.2.1 p.1.2.2.1 p.1.2.2.2.1 p.1.2.2.2.2.1 p.1.2.2.2.2.2.1, laws_toEngine_y p.1.1 p.1.2.1 p.1.2.2.1 p.1.2.2.2.1 p.1.2.2.2.2.1 p.1.2.2.2.2.2.1, laws_toEngine_l⟩
  cases hk

def G20 : Glob := G19.add 51 laws_toEngine_g

theorem G20_ok : GlobOk Try.prog G20 := G19_ok.add ⟨Try.f51, Try.func51, by kernel_rfl, by kernel_rfl⟩ laws_toEngine_c

/-! ### loop.example/g00327/spec.OpenAt -/

def spec_OpenAt_loops : Nat → Option LoopSpec
  | 0 => some ⟨[1, 2, 4, 5], [], fun vals st k => onPats [.int .i64, .bp 0 0, .int .i64, .int .i64] [.box [.lst tVersion, .lst tTxn, .lst tTxn, .int .i64, .int .i64, .lst tTxn]] vals st (fun p q => loopK spec_OpenAt_b0 Fuel (p.1, p.2.2.1, p.2.2.2.1, q.1.1, q.1.2.1, q.1.2.2.1, q.1.2.2.2.1, q.1.2.2.2.2.1, q.1.2.2.2.2.2.1) (Sum.elim (fun z => k .ret [.int .i64 z.1, .bp 0 0, .int .i64 z.2.1, .int .i64 z.2.2.1] [.box [.lst tVersion z.2.2.2.1, .lst tTxn z.2.2.2.2.1, .lst tTxn z.2.2.2.2.2.1, .int .i64 z.2.2.2.2.2.2.1, .int .i64 z.2.2.2.2.2.2.2.1, .lst tTxn z.2.2.2.2.2.2.2.2]]) (fun z => k (.exit 0) [.int .i64 z.1, .bp 0 0, .int .i64 z.2.1, .int .i64 z.2.2.1] [.box [.lst tVersion z.2.2.2.1, .lst tTxn z.2.2.2.2.1, .lst tTxn z.2.2.2.2.2.1, .int .i64 z.2.2.2.2.2.2.1, .int .i64 z.2.2.2.2.2.2.2.1, .lst tTxn z.2.2.2.2.2.2.2.2]])))
      (none)⟩
  | _ => none

def spec_OpenAt_v0 : (Int × Int × Int × (List dVersion) × (List dTxn) × (List dTxn) × Int × Int × (List dTxn)) → List AV := (fun x => [.int .i64 x.1, .bp 0 0, .int .i64 x.2.1, .int .i64 x.2.2.1])
def spec_OpenAt_s0 : (Int × Int × Int × (List dVersion) × (List dTxn) × (List dTxn) × Int × Int × (List dTxn)) → St := (fun x => [.box [.lst tVersion x.2.2.2.1, .lst tTxn x.2.2.2.2.1, .lst tTxn x.2.2.2.2.2.1, .int .i64 x.2.2.2.2.2.2.1, .int .i64 x.2.2.2.2.2.2.2.1, .lst tTxn x.2.2.2.2.2.2.2.2]])
def spec_OpenAt_e0 : ((Int × Int × Int × (List dVersion) × (List dTxn) × (List dTxn) × Int × Int × (List dTxn)) ⊕ (Int × Int × Int × (List dVersion) × (List dTxn) × (List dTxn) × Int × Int × (List dTxn))) → Out × List AV × St := (Sum.elim (fun z => (.ret, [.int .i64 z.1, .bp 0 0, .int .i64 z.2.1, .int .i64 z.2.2.1], [.box [.lst tVersion z.2.2.2.1, .lst tTxn z.2.2.2.2.1, .lst tTxn z.2.2.2.2.2.1, .int .i64 z.2.2.2.2.2.2.1, .int .i64 z.2.2.2.2.2.2.2.1, .lst tTxn z.2.2.2.2.2.2.2.2]])) (fun z => ((.exit 0), [.int .i64 z.1, .bp 0 0, .int .i64 z.2.1, .int .i64 z.2.2.1], [.box [.lst tVersion z.2.2.2.1, .lst tTxn z.2.2.2.2.1, .lst tTxn z.2.2.2.2.2.1, .int .i64 z.2.2.2.2.2.2.1, .int .i64 z.2.2.2.2.2.2.2.1, .lst tTxn z.2.2.2.2.2.2.2.2]])))

theorem spec_OpenAt_bx0 (x : (Int × Int × Int × (List dVersion) × (List dTxn) × (List dTxn) × Int × Int × (List dTxn))) : exec G20 ⟨0, 22, spec_OpenAt_loops⟩ (loopBody Try.f50 0) (bodyK ⟨0, 22, spec_OpenAt_loops⟩ [1, 2, 4, 5] []) (setEs (deads 22) [1, 2, 4, 5] (spec_OpenAt_v0 x)) (spec_OpenAt_s0 x) = spec_OpenAt_b0 x (Sum.elim (fun y => some ⟨.norm, spec_OpenAt_v0 y, spec_OpenAt_s0 y⟩) fun z => some ⟨(spec_OpenAt_e0 z).1, (spec_OpenAt_e0 z).2.1, (spec_OpenAt_e0 z).2.2⟩) := by
  kernel_rfl

theorem spec_OpenAt_lo0 : ∀ sp, (spec_OpenAt_loops 0) = some sp → LoopOk G20 ⟨0, 22, spec_OpenAt_loops⟩ sp (loopBody Try.f50 0) := by
  intro sp hsp vals st k r h
  cases hsp
  dsimp only at h
  rcases onPats_inv2 h with ⟨p, q, rfl, rfl, h⟩ | h
  · exact loop_runs2 spec_OpenAt_bp0 spec_OpenAt_v0 spec_OpenAt_s0 spec_OpenAt_e0 (fun z => by rcases z with z | z <;> (intro h; cases h)) spec_OpenAt_bx0 Fuel (p.1, p.2.2.1, p.2.2.2.1, q.1.1, q.1.2.1, q.1.2.2.1, q.1.2.2.2.1, q.1.2.2.2.2.1, q.1.2.2.2.2.2.1) _ k r (fun z => by rcases z with z | z <;> rfl) h
  cases h

theorem spec_OpenAt_x (a0 : (List dVersion)) (a1 : (List dTxn)) (a2 : (List dTxn)) (a3 : Int) (a4 : Int) (a5 : (List dTxn)) (a6 : Int) : execFn G20 spec_OpenAt_loops Try.f50 [.agg [.lst tVersion a0, .lst tTxn a1, .lst tTxn a2, .int .i64 a3, .int .i64 a4, .lst tTxn a5], .int .i64 a6] [] = spec_OpenAt_d ((a0, (a1, (a2, (a3, a4)))), a5) a6 (fun (y : Int) => some ⟨.ret, [.int .i64 y], []⟩) := by kernel_rfl

theorem spec_OpenAt_y (a0 : (List dVersion)) (a1 : (List dTxn)) (a2 : (List dTxn)) (a3 : Int) (a4 : Int) (a5 : (List dTxn)) (a6 : Int) : execFn G20 spec_OpenAt_loops Try.f50 [.agg [.lst tVersion a0, .lst tTxn a1, .lst tTxn a2, .int .i64 a3, .int .i64 a4, .lst tTxn a5], .int .i64 a6] [] = spec_OpenAt_k ((a0, (a1, (a2, (a3, a4)))), a5) a6 (fun (y : Int) => some ⟨.ret, [.int .i64 y], []⟩) := (spec_OpenAt_x a0 a1 a2 a3 a4 a5 a6).trans (by rw [spec_OpenAt_e])

theorem spec_OpenAt_l : LoopsOk G20 ⟨0, 22, spec_OpenAt_loops⟩ (Try.f50.body.getD .skip) :=
  loopsOk_of (ids := [0]) (by kernel_rfl) (by kernel_rfl) ⟨spec_OpenAt_lo0, trivial⟩

theorem spec_OpenAt_c : Contract Try.prog 50 spec_OpenAt_g := by
  refine told G20_ok follows Try.func50 (c := Try.f50.body.getD .skip) (by kernel_rfl) ?_
  intro args s k r hk
  unfold spec_OpenAt_g at hk
  rcases onPats_inv hk with ⟨p, q, rfl, rfl⟩ | hk
  · exact ⟨spec_OpenAt_loops, spec_OpenAt_q p.1.1 p.1.2.1 p.1.2.2.1 p.1.2.2.2.1 p.1.2.2.2.2.1 p.1.2.2.2.2.2.1 p.2.1, spec_OpenAt_y p.1.1 p.1.2.1 p.1.2.2.1 p.1.2.2.2.1 p.1.2.2.2.2.1 p.1.2.2.2.2.2.1 p.2.1, spec_OpenAt_l⟩
  cases hk

def G21 : Glob := G20.add 50 spec_OpenAt_g

theorem G21_ok : GlobOk Try.prog G21 := G20_ok.add ⟨Try.f50, Try.func50, by kernel_rfl, by kernel_rfl⟩ spec_OpenAt_c

/-! ### loop.example/g00327/impl.OpenAt$1 -/

def impl_OpenAt_1_loops : Nat → Option LoopSpec
  | _ => none

theorem impl_OpenAt_1_x (a0 : Int) (a1 : Int) (a2 : Int) (a3 : Int) (a4 : (List dRange)) (a5 : (List dWrite)) (a6 : Bool) (a7 : ByteArray) (a8 : Int) : execFn G21 impl_OpenAt_1_loops Try.f126 [.agg [.int .i64 a0, .int .i64 a1, .int .i64 a2, .int .i64 a3, .lst tRange a4, .lst tWrite a5, .bool a6, .str a7], .bp 0 0] [.box [.int .i64 a8]] = impl_OpenAt_1_d (a0, (a1, (a2, (a3, (a4, (a5, (a6, a7))))))) a8 (fun (y : (Bool × Int)) => some ⟨.ret, [.bool y.1], [.box [.int .i64 y.2]]⟩) := by kernel_rfl

theorem impl_OpenAt_1_y (a0 : Int) (a1 : Int) (a2 : Int) (a3 : Int) (a4 : (List dRange)) (a5 : (List dWrite)) (a6 : Bool) (a7 : ByteArray) (a8 : Int) : execFn G21 impl_OpenAt_1_loops Try.f126 [.agg [.int .i64 a0, .int .i64 a1, .int .i64 a2, .int .i64 a3, .lst tRange a4, .lst tWrite a5, .bool a6, .str a7], .bp 0 0] [.box [.int .i64 a8]] = impl_OpenAt_1_k (a0, (a1, (a2, (a3, (a4, (a5, (a6, a7))))))) a8 (fun (y : (Bool × Int)) => some ⟨.ret, [.bool y.1], [.box [.int .i64 y.2]]⟩) := (impl_OpenAt_1_x a0 a1 a2 a3 a4 a5 a6 a7 a8).trans (by rw [impl_OpenAt_1_e])

theorem impl_OpenAt_1_l : LoopsOk G21 ⟨1, 8, impl_OpenAt_1_loops⟩ (Try.f126.body.getD .skip) :=
  loopsOk_of (ids := []) (by kernel_rfl) (by kernel_rfl) trivial

theorem impl_OpenAt_1_c : Contract Try.prog 126 impl_OpenAt_1_g := by
  refine told G21_ok follows Try.func126 (c := Try.f126.body.getD .skip) (by kernel_rfl) ?_
  intro args s k r hk
  unfold impl_OpenAt_1_g at hk
  rcases onPats_inv hk with ⟨p, q, rfl, rfl⟩ | hk
  · exact ⟨impl_OpenAt_1_loops, impl_OpenAt_1_q p.1.1 p.1.2.1 p.1.2.2.1 p.1.2.2.2.1 p.1.2.2.2.2.1 p.1.2.2.2.2.2.1 p.1.2.2.2.2.2.2.1 p.1.2.2.2.2.2.2.2.1 q.1.1, impl_OpenAt_1_y p.1.1 p.1.2.1 p.1.2.2.1 p.1.2.2.2.1 p.1.2.2.2.2.1 p.1.2.2.2.2.2.1 p.1.2.2.2.2.2.2.1 p.1.2.2.2.2.2.2.2.1 q.1.1, impl_OpenAt_1_l⟩
  cases hk

def G22 : Glob := G21.add 126 impl_OpenAt_1_g

theorem G22_ok : GlobOk Try.prog G22 := G21_ok.add ⟨Try.f126, Try.func126, by kernel_rfl, by kernel_rfl⟩ impl_OpenAt_1_c

/-! ### slices.IndexFunc[[]loop.example/g00327/impl.Txn,loop.example/g00327/impl.Txn] -/

def slices_IndexFunc_Txn_OpenAt_1_loops : Nat → Option LoopSpec
  | 0 => some ⟨[0, 1, 4, 7, 8], [], fun vals st k => onPats [.lst tTxn, .fn 126 [.bp 0 0], .int .i64, .int .i64, .int .i64] [.box [.int .i64]] vals st (fun p q => loopK slices_IndexFunc_Txn_OpenAt_1_b0 Fuel (p.1, p.2.2.1, p.2.2.2.1, p.2.2.2.2.1, q.1.1) (Sum.elim (fun z => k .ret [.lst tTxn z.1, .fn 126 [.bp 0 0], .int .i64 z.2.1, .int .i64 z.2.2.1, .int .i64 z.2.2.2.1] [.box [.int .i64 z.2.2.2.2]]) (fun z => k (.exit 0) [.lst tTxn z.1, .fn 126 [.bp 0 0], .int .i64 z.2.1, .int .i64 z.2.2.1, .int .i64 z.2.2.2.1] [.box [.int .i64 z.2.2.2.2]])))
      (none)⟩
  | _ => none

def slices_IndexFunc_Txn_OpenAt_1_v0 : ((List dTxn) × Int × Int × Int × Int) → List AV := (fun x => [.lst tTxn x.1, .fn 126 [.bp 0 0], .int .i64 x.2.1, .int .i64 x.2.2.1, .int .i64 x.2.2.2.1])
def slices_IndexFunc_Txn_OpenAt_1_s0 : ((List dTxn) × Int × Int × Int × Int) → St := (fun x => [.box [.int .i64 x.2.2.2.2]])
def slices_IndexFunc_Txn_OpenAt_1_e0 : (((List dTxn) × Int × Int × Int × Int) ⊕ ((List dTxn) × Int × Int × Int × Int)) → Out × List AV × St := (Sum.elim (fun z => (.ret, [.lst tTxn z.1, .fn 126 [.bp 0 0], .int .i64 z.2.1, .int .i64 z.2.2.1, .int .i64 z.2.2.2.1], [.box [.int .i64 z.2.2.2.2]])) (fun z => ((.exit 0), [.lst tTxn z.1, .fn 126 [.bp 0 0], .int .i64 z.2.1, .int .i64 z.2.2.1, .int .i64 z.2.2.2.1], [.box [.int .i64 z.2.2.2.2]])))

theorem slices_IndexFunc_Txn_OpenAt_1_bx0 (x : ((List dTxn) × Int × Int × Int × Int)) : exec G22 ⟨1, 19, slices_IndexFunc_Txn_OpenAt_1_loops⟩ (loopBody Try.f81 0) (bodyK ⟨1, 19, slices_IndexFunc_Txn_OpenAt_1_loops⟩ [0, 1, 4, 7, 8] []) (setEs (deads 19) [0, 1, 4, 7, 8] (slices_IndexFunc_Txn_OpenAt_1_v0 x)) (slices_IndexFunc_Txn_OpenAt_1_s0 x) = slices_IndexFunc_Txn_OpenAt_1_b0 x (Sum.elim (fun y => some ⟨.norm, slices_IndexFunc_Txn_OpenAt_1_v0 y, slices_IndexFunc_Txn_OpenAt_1_s0 y⟩) fun z => some ⟨(slices_IndexFunc_Txn_OpenAt_1_e0 z).1, (slices_IndexFunc_Txn_OpenAt_1_e0 z).2.1, (slices_IndexFunc_Txn_OpenAt_1_e0 z).2.2⟩) := by
  kernel_rfl

theorem slices_IndexFunc_Txn_OpenAt_1_lo0 : ∀ sp, (slices_IndexFunc_Txn_OpenAt_1_loops 0) = some sp → LoopOk G22 ⟨1, 19, slices_IndexFunc_Txn_OpenAt_1_loops⟩ sp (loopBody Try.f81 0) := by
  intro sp hsp vals st k r h
  cases hsp
  dsimp only at h
  rcases onPats_inv2 h with ⟨p, q, rfl, rfl, h⟩ | h
  · exact loop_runs2 slices_IndexFunc_Txn_OpenAt_1_bp0 slices_IndexFunc_Txn_OpenAt_1_v0 slices_IndexFunc_Txn_OpenAt_1_s0 slices_IndexFunc_Txn_OpenAt_1_e0 (fun z => by rcases z with z | z <;> (intro h; cases h)) slices_IndexFunc_Txn_OpenAt_1_bx0 Fuel (p.1, p.2.2.1, p.2.2.2.1, p.2.2.2.2.1, q.1.1) _ k r (fun z => by rcases z with z | z <;> rfl) h
  cases h

theorem slices_IndexFunc_Txn_OpenAt_1_x (a0 : (List dTxn)) (a1 : Int) : execFn G22 slices_IndexFunc_Txn_OpenAt_1_loops Try.f81 [.lst tTxn a0, .fn 126 [.bp 0 0]] [.box [.int .i64 a1]] = slices_IndexFunc_Txn_OpenAt_1_d a0 a1 (fun (y : (Int × Int)) => some ⟨.ret, [.int .i64 y.1], [.box [.int .i64 y.2]]⟩) := by kernel_rfl

theorem slices_IndexFunc_Txn_OpenAt_1_y (a0 : (List dTxn)) (a1 : Int) : execFn G22 slices_IndexFunc_Txn_OpenAt_1_loops Try.f81 [.lst tTxn a0, .fn 126 [.bp 0 0]] [.box [.int .i64 a1]] = slices_IndexFunc_Txn_OpenAt_1_k a0 a1 (fun (y : (Int × Int)) => some ⟨.ret, [.int .i64 y.1], [.box [.int .i64 y.2]]⟩) := (slices_IndexFunc_Txn_OpenAt_1_x a0 a1).trans (by rw [slices_IndexFunc_Txn_OpenAt_1_e])

theorem slices_IndexFunc_Txn_OpenAt_1_l : LoopsOk G22 ⟨1, 19, slices_IndexFunc_Txn_OpenAt_1_loops⟩ (Try.f81.body.getD .skip) :=
  loopsOk_of (ids := [0]) (by kernel_rfl) (by kernel_rfl) ⟨slices_IndexFunc_Txn_OpenAt_1_lo0, trivial⟩

theorem slices_IndexFunc_Txn_c : Contract Try.prog 81 slices_IndexFunc_Txn_g := by
  refine told G22_ok follows Try.func81 (c := Try.f81.body.getD .skip) (by kernel_rfl) ?_
  intro args s k r hk
  unfold slices_IndexFunc_Txn_g at hk
  rcases onPats_inv hk with ⟨p, q, rfl, rfl⟩ | hk
  · exact ⟨slices_IndexFunc_Txn_OpenAt_1_loops, slices_IndexFunc_Txn_OpenAt_1_q p.1 q.1.1, slices_IndexFunc_Txn_OpenAt_1_y p.1 q.1.1, slices_IndexFunc_Txn_OpenAt_1_l⟩
  cases hk

def G23 : Glob := G22.add 81 slices_IndexFunc_Txn_g

theorem G23_ok : GlobOk Try.prog G23 := G22_ok.add ⟨Try.f81, Try.func81, by kernel_rfl, by kernel_rfl⟩ slices_IndexFunc_Txn_c

/-! ### loop.example/g00327/impl.OpenAt -/

def impl_OpenAt_loops : Nat → Option LoopSpec
  | _ => none

theorem impl_OpenAt_x (a0 : (List dVersion)) (a1 : (List dTxn)) (a2 : (List dTxn)) (a3 : Int) (a4 : Int) (a5 : (List dTxn)) (a6 : Int) : execFn G23 impl_OpenAt_loops Try.f52 [.agg [.lst tVersion a0, .lst tTxn a1, .lst tTxn a2, .int .i64 a3, .int .i64 a4, .lst tTxn a5], .int .i64 a6] [] = impl_OpenAt_d ((a0, (a1, (a2, (a3, a4)))), a5) a6 (fun (y : Int) => some ⟨.ret, [.int .i64 y], []⟩) := by kernel_rfl

theorem impl_OpenAt_y (a0 : (List dVersion)) (a1 : (List dTxn)) (a2 : (List dTxn)) (a3 : Int) (a4 : Int) (a5 : (List dTxn)) (a6 : Int) : execFn G23 impl_OpenAt_loops Try.f52 [.agg [.lst tVersion a0, .lst tTxn a1, .lst tTxn a2, .int .i64 a3, .int .i64 a4, .lst tTxn a5], .int .i64 a6] [] = impl_OpenAt_k ((a0, (a1, (a2, (a3, a4)))), a5) a6 (fun (y : Int) => some ⟨.ret, [.int .i64 y], []⟩) := (impl_OpenAt_x a0 a1 a2 a3 a4 a5 a6).trans (by rw [impl_OpenAt_e])

theorem impl_OpenAt_l : LoopsOk G23 ⟨0, 9, impl_OpenAt_loops⟩ (Try.f52.body.getD .skip) :=
  loopsOk_of (ids := []) (by kernel_rfl) (by kernel_rfl) trivial

theorem impl_OpenAt_c : Contract Try.prog 52 impl_OpenAt_g := by
  refine told G23_ok follows Try.func52 (c := Try.f52.body.getD .skip) (by kernel_rfl) ?_
  intro args s k r hk
  unfold impl_OpenAt_g at hk
  rcases onPats_inv hk with ⟨p, q, rfl, rfl⟩ | hk
  · exact ⟨impl_OpenAt_loops, impl_OpenAt_q p.1.1 p.1.2.1 p.1.2.2.1 p.1.2.2.2.1 p.1.2.2.2.2.1 p.1.2.2.2.2.2.1 p.2.1, impl_OpenAt_y p.1.1 p.1.2.1 p.1.2.2.1 p.1.2.2.2.1 p.1.2.2.2.2.1 p.1.2.2.2.2.2.1 p.2.1, impl_OpenAt_l⟩
  cases hk

def G24 : Glob := G23.add 52 impl_OpenAt_g

theorem G24_ok : GlobOk Try.prog G24 := G23_ok.add ⟨Try.f52, Try.func52, by kernel_rfl, by kernel_rfl⟩ impl_OpenAt_c

/-! ### loop.example/g00327/laws.eqVersion -/

def laws_eqVersion_loops : Nat → Option LoopSpec
  | _ => none

theorem laws_eqVersion_x (a0 : ByteArray) (a1 : ByteArray) (a2 : Bool) (a3 : Int) (a4 : ByteArray) (a5 : ByteArray) (a6 : Bool) (a7 : Int) : execFn G24 laws_eqVersion_loops Try.f123 [.agg [.str a0, .str a1, .bool a2, .int .i64 a3], .agg [.str a4, .str a5, .bool a6, .int .i64 a7]] [] = laws_eqVersion_d (a0, (a1, (a2, a3))) (a4, (a5, (a6, a7))) (fun (y : Bool) => some ⟨.ret, [.bool y], []⟩) := by kernel_rfl

theorem laws_eqVersion_y (a0 : ByteArray) (a1 : ByteArray) (a2 : Bool) (a3 : Int) (a4 : ByteArray) (a5 : ByteArray) (a6 : Bool) (a7 : Int) : execFn G24 laws_eqVersion_loops Try.f123 [.agg [.str a0, .str a1, .bool a2, .int .i64 a3], .agg [.str a4, .str a5, .bool a6, .int .i64 a7]] [] = laws_eqVersion_k (a0, (a1, (a2, a3))) (a4, (a5, (a6, a7))) (fun (y : Bool) => some ⟨.ret, [.bool y], []⟩) := (laws_eqVersion_x a0 a1 a2 a3 a4 a5 a6 a7).trans (by rw [laws_eqVersion_e])

theorem laws_eqVersion_l : LoopsOk G24 ⟨0, 25, laws_eqVersion_loops⟩ (Try.f123.body.getD .skip) :=
  loopsOk_of (ids := []) (by kernel_rfl) (by kernel_rfl) trivial

theorem laws_eqVersion_c : Contract Try.prog 123 laws_eqVersion_g := by
  refine told G24_ok follows Try.func123 (c := Try.f123.body.getD .skip) (by kernel_rfl) ?_
  intro args s k r hk
  unfold laws_eqVersion_g at hk
  rcases onPats_inv hk with ⟨p, q, rfl, rfl⟩ | hk
  · exact ⟨laws_eqVersion_loops, laws_eqVersion_q p.1.1 p.1.2.1 p.1.2.2.1 p.1.2.2.2.1 p.2.1.1 p.2.1.2.1 p.2.1.2.2.1 p.2.1.2.2.2.1, laws_eqVersion_y p.1.1 p.1.2.1 p.1.2.2.1 p.1.2.2.2.1 p.2.1.1 p.2.1.2.1 p.2.1.2.2.1 p.2.1.2.2.2.1, laws_eqVersion_l⟩
  cases hk

def G25 : Glob := G24.add 123 laws_eqVersion_g

theorem G25_ok : GlobOk Try.prog G25 := G24_ok.add ⟨Try.f123, Try.func123, by kernel_rfl, by kernel_rfl⟩ laws_eqVersion_c

/-! ### loop.example/g00327/laws.eqVersionS -/

def laws_eqVersionS_loops : Nat → Option LoopSpec
  | 0 => some ⟨[0, 1, 4, 5], [], fun vals st k => onPats [.lst tVersion, .lst tVersion, .bool, .int .i64] [] vals st (fun p q => loopK laws_eqVersionS_b0 Fuel (p.1, p.2.1, p.2.2.1, p.2.2.2.1) (Sum.elim (fun z => k .ret [.lst tVersion z.1, .lst tVersion z.2.1, .bool z.2.2.1, .int .i64 z.2.2.2] []) (fun z => k (.exit 0) [.lst tVersion z.1, .lst tVersion z.2.1, .bool z.2.2.1, .int .i64 z.2.2.2] [])))
      (none)⟩
  | _ => none

def laws_eqVersionS_v0 : ((List dVersion) × (List dVersion) × Bool × Int) → List AV := (fun x => [.lst tVersion x.1, .lst tVersion x.2.1, .bool x.2.2.1, .int .i64 x.2.2.2])
def laws_eqVersionS_s0 : ((List dVersion) × (List dVersion) × Bool × Int) → St := (fun x => [])
def laws_eqVersionS_e0 : (((List dVersion) × (List dVersion) × Bool × Int) ⊕ ((List dVersion) × (List dVersion) × Bool × Int)) → Out × List AV × St := (Sum.elim (fun z => (.ret, [.lst tVersion z.1, .lst tVersion z.2.1, .bool z.2.2.1, .int .i64 z.2.2.2], [])) (fun z => ((.exit 0), [.lst tVersion z.1, .lst tVersion z.2.1, .bool z.2.2.1, .int .i64 z.2.2.2], [])))

theorem laws_eqVersionS_bx0 (x : ((List dVersion) × (List dVersion) × Bool × Int)) : exec G25 ⟨0, 27, laws_eqVersionS_loops⟩ (loopBody Try.f44 0) (bodyK ⟨0, 27, laws_eqVersionS_loops⟩ [0, 1, 4, 5] []) (setEs (deads 27) [0, 1, 4, 5] (laws_eqVersionS_v0 x)) (laws_eqVersionS_s0 x) = laws_eqVersionS_b0 x (Sum.elim (fun y => some ⟨.norm, laws_eqVersionS_v0 y, laws_eqVersionS_s0 y⟩) fun z => some ⟨(laws_eqVersionS_e0 z).1, (laws_eqVersionS_e0 z).2.1, (laws_eqVersionS_e0 z).2.2⟩) := by
  kernel_rfl

theorem laws_eqVersionS_lo0 : ∀ sp, (laws_eqVersionS_loops 0) = some sp → LoopOk G25 ⟨0, 27, laws_eqVersionS_loops⟩ sp (loopBody Try.f44 0) := by
  intro sp hsp vals st k r h
  cases hsp
  dsimp only at h
  rcases onPats_inv2 h with ⟨p, q, rfl, rfl, h⟩ | h
  · exact loop_runs2 laws_eqVersionS_bp0 laws_eqVersionS_v0 laws_eqVersionS_s0 laws_eqVersionS_e0 (fun z => by rcases z with z | z <;> (intro h; cases h)) laws_eqVersionS_bx0 Fuel (p.1, p.2.1, p.2.2.1, p.2.2.2.1) _ k r (fun z => by rcases z with z | z <;> rfl) h
  cases h

theorem laws_eqVersionS_x (a0 : (List dVersion)) (a1 : (List dVersion)) : execFn G25 laws_eqVersionS_loops Try.f44 [.lst tVersion a0, .lst tVersion a1] [] = laws_eqVersionS_d a0 a1 (fun (y : Bool) => some ⟨.ret, [.bool y], []⟩) := by kernel_rfl

theorem laws_eqVersionS_y (a0 : (List dVersion)) (a1 : (List dVersion)) : execFn G25 laws_eqVersionS_loops Try.f44 [.lst tVersion a0, .lst tVersion a1] [] = laws_eqVersionS_k a0 a1 (fun (y : Bool) => some ⟨.ret, [.bool y], []⟩) := (laws_eqVersionS_x a0 a1).trans (by rw [laws_eqVersionS_e])

theorem laws_eqVersionS_l : LoopsOk G25 ⟨0, 27, laws_eqVersionS_loops⟩ (Try.f44.body.getD .skip) :=
  loopsOk_of (ids := [0]) (by kernel_rfl) (by kernel_rfl) ⟨laws_eqVersionS_lo0, trivial⟩

theorem laws_eqVersionS_c : Contract Try.prog 44 laws_eqVersionS_g := by
  refine told G25_ok follows Try.func44 (c := Try.f44.body.getD .skip) (by kernel_rfl) ?_
  intro args s k r hk
  unfold laws_eqVersionS_g at hk
  rcases onPats_inv hk with ⟨p, q, rfl, rfl⟩ | hk
  · exact ⟨laws_eqVersionS_loops, laws_eqVersionS_q p.1 p.2.1, laws_eqVersionS_y p.1 p.2.1, laws_eqVersionS_l⟩
  cases hk

def G26 : Glob := G25.add 44 laws_eqVersionS_g

theorem G26_ok : GlobOk Try.prog G26 := G25_ok.add ⟨Try.f44, Try.func44, by kernel_rfl, by kernel_rfl⟩ laws_eqVersionS_c

/-! ### loop.example/g00327/laws.eqRange -/

def laws_eqRange_loops : Nat → Option LoopSpec
  | _ => none

theorem laws_eqRange_x (a0 : ByteArray) (a1 : ByteArray) (a2 : ByteArray) (a3 : ByteArray) : execFn G26 laws_eqRange_loops Try.f173 [.agg [.str a0, .str a1], .agg [.str a2, .str a3]] [] = laws_eqRange_d (a0, a1) (a2, a3) (fun (y : Bool) => some ⟨.ret, [.bool y], []⟩) := by kernel_rfl

theorem laws_eqRange_y (a0 : ByteArray) (a1 : ByteArray) (a2 : ByteArray) (a3 : ByteArray) : execFn G26 laws_eqRange_loops Try.f173 [.agg [.str a0, .str a1], .agg [.str a2, .str a3]] [] = laws_eqRange_k (a0, a1) (a2, a3) (fun (y : Bool) => some ⟨.ret, [.bool y], []⟩) := (laws_eqRange_x a0 a1 a2 a3).trans (by rw [laws_eqRange_e])

theorem laws_eqRange_l : LoopsOk G26 ⟨0, 15, laws_eqRange_loops⟩ (Try.f173.body.getD .skip) :=
  loopsOk_of (ids := []) (by kernel_rfl) (by kernel_rfl) trivial

theorem laws_eqRange_c : Contract Try.prog 173 laws_eqRange_g := by
  refine told G26_ok follows Try.func173 (c := Try.f173.body.getD .skip) (by kernel_rfl) ?_
  intro args s k r hk
  unfold laws_eqRange_g at hk
  rcases onPats_inv hk with ⟨p, q, rfl, rfl⟩ | hk
  · exact ⟨laws_eqRange_loops, laws_eqRange_q p.1.1 p.1.2.1 p.2.1.1 p.2.1.2.1, laws_eqRange_y p.1.1 p.1.2.1 p.2.1.1 p.2.1.2.1, laws_eqRange_l⟩
  cases hk

def G27 : Glob := G26.add 173 laws_eqRange_g

theorem G27_ok : GlobOk Try.prog G27 := G26_ok.add ⟨Try.f173, Try.func173, by kernel_rfl, by kernel_rfl⟩ laws_eqRange_c

/-! ### loop.example/g00327/laws.eqRangeS -/

def laws_eqRangeS_loops : Nat → Option LoopSpec
  | 0 => some ⟨[0, 1, 4, 5], [], fun vals st k => onPats [.lst tRange, .lst tRange, .bool, .int .i64] [] vals st (fun p q => loopK laws_eqRangeS_b0 Fuel (p.1, p.2.1, p.2.2.1, p.2.2.2.1) (Sum.elim (fun z => k .ret [.lst tRange z.1, .lst tRange z.2.1, .bool z.2.2.1, .int .i64 z.2.2.2] []) (fun z => k (.exit 0) [.lst tRange z.1, .lst tRange z.2.1, .bool z.2.2.1, .int .i64 z.2.2.2] [])))
      (none)⟩
  | _ => none

def laws_eqRangeS_v0 : ((List dRange) × (List dRange) × Bool × Int) → List AV := (fun x => [.lst tRange x.1, .lst tRange x.2.1, .bool x.2.2.1, .int .i64 x.2.2.2])
def laws_eqRangeS_s0 : ((List dRange) × (List dRange) × Bool × Int) → St := (fun x => [])
def laws_eqRangeS_e0 : (((List dRange) × (List dRange) × Bool × Int) ⊕ ((List dRange) × (List dRange) × Bool × Int)) → Out × List AV × St := (Sum.elim (fun z => (.ret, [.lst tRange z.1, .lst tRange z.2.1, .bool z.2.2.1, .int .i64 z.2.2.2], [])) (fun z => ((.exit 0), [.lst tRange z.1, .lst tRange z.2.1, .bool z.2.2.1, .int .i64 z.2.2.2], [])))

theorem laws_eqRangeS_bx0 (x : ((List dRange) × (List dRange) × Bool × Int)) : exec G27 ⟨0, 27, laws_eqRangeS_loops⟩ (loopBody Try.f94 0) (bodyK ⟨0, 27, laws_eqRangeS_loops⟩ [0, 1, 4, 5] []) (setEs (deads 27) [0, 1, 4, 5] (laws_eqRangeS_v0 x)) (laws_eqRangeS_s0 x) = laws_eqRangeS_b0 x (Sum.elim (fun y => some ⟨.norm, laws_eqRangeS_v0 y, laws_eqRangeS_s0 y⟩) fun z => some ⟨(laws_eqRangeS_e0 z).1, (laws_eqRangeS_e0 z).2.1, (laws_eqRangeS_e0 z).2.2⟩) := by
  kernel_rfl

theorem laws_eqRangeS_lo0 : ∀ sp, (laws_eqRangeS_loops 0) = some sp → LoopOk G27 ⟨0, 27, laws_eqRangeS_loops⟩ sp (loopBody Try.f94 0) := by
  intro sp hsp vals st k r h
  cases hsp
  dsimp only at h
  rcases onPats_inv2 h with ⟨p, q, rfl, rfl, h⟩ | h
  · exact loop_runs2 laws_eqRangeS_bp0 laws_eqRangeS_v0 laws_eqRangeS_s0 laws_eqRangeS_e0 (fun z => by rcases z with z | z <;> (intro h; cases h)) laws_eqRangeS_bx0 Fuel (p.1, p.2.1, p.2.2.1, p.2.2.2.1) _ k r (fun z => by rcases z with z | z <;> rfl) h
  cases h

theorem laws_eqRangeS_x (a0 : (List dRange)) (a1 : (List dRange)) : execFn G27 laws_eqRangeS_loops Try.f94 [.lst tRange a0, .lst tRange a1] [] = laws_eqRangeS_d a0 a1 (fun (y : Bool) => some ⟨.ret, [.bool y], []⟩) := by kernel_rfl

theorem laws_eqRangeS_y (a0 : (List dRange)) (a1 : (List dRange)) : execFn G27 laws_eqRangeS_loops Try.f94 [.lst tRange a0, .lst tRange a1] [] = laws_eqRangeS_k a0 a1 (fun (y : Bool) => some ⟨.ret, [.bool y], []⟩) := (laws_eqRangeS_x a0 a1).trans (by rw [laws_eqRangeS_e])

theorem laws_eqRangeS_l : LoopsOk G27 ⟨0, 27, laws_eqRangeS_loops⟩ (Try.f94.body.getD .skip) :=
  loopsOk_of (ids := [0]) (by kernel_rfl) (by kernel_rfl) ⟨laws_eqRangeS_lo0, trivial⟩

theorem laws_eqRangeS_c : Contract Try.prog 94 laws_eqRangeS_g := by
  refine told G27_ok follows Try.func94 (c := Try.f94.body.getD .skip) (by kernel_rfl) ?_
  intro args s k r hk
  unfold laws_eqRangeS_g at hk
  rcases onPats_inv hk with ⟨p, q, rfl, rfl⟩ | hk
  · exact ⟨laws_eqRangeS_loops, laws_eqRangeS_q p.1 p.2.1, laws_eqRangeS_y p.1 p.2.1, laws_eqRangeS_l⟩
  cases hk

def G28 : Glob := G27.add 94 laws_eqRangeS_g

theorem G28_ok : GlobOk Try.prog G28 := G27_ok.add ⟨Try.f94, Try.func94, by kernel_rfl, by kernel_rfl⟩ laws_eqRangeS_c

/-! ### loop.example/g00327/laws.eqWrite -/

def laws_eqWrite_loops : Nat → Option LoopSpec
  | _ => none

theorem laws_eqWrite_x (a0 : ByteArray) (a1 : ByteArray) (a2 : Bool) (a3 : ByteArray) (a4 : ByteArray) (a5 : Bool) : execFn G28 laws_eqWrite_loops Try.f124 [.agg [.str a0, .str a1, .bool a2], .agg [.str a3, .str a4, .bool a5]] [] = laws_eqWrite_d (a0, (a1, a2)) (a3, (a4, a5)) (fun (y : Bool) => some ⟨.ret, [.bool y], []⟩) := by kernel_rfl

theorem laws_eqWrite_y (a0 : ByteArray) (a1 : ByteArray) (a2 : Bool) (a3 : ByteArray) (a4 : ByteArray) (a5 : Bool) : execFn G28 laws_eqWrite_loops Try.f124 [.agg [.str a0, .str a1, .bool a2], .agg [.str a3, .str a4, .bool a5]] [] = laws_eqWrite_k (a0, (a1, a2)) (a3, (a4, a5)) (fun (y : Bool) => some ⟨.ret, [.bool y], []⟩) := (laws_eqWrite_x a0 a1 a2 a3 a4 a5).trans (by rw [laws_eqWrite_e])

theorem laws_eqWrite_l : LoopsOk G28 ⟨0, 20, laws_eqWrite_loops⟩ (Try.f124.body.getD .skip) :=
  loopsOk_of (ids := []) (by kernel_rfl) (by kernel_rfl) trivial

theorem laws_eqWrite_c : Contract Try.prog 124 laws_eqWrite_g := by
  refine told G28_ok follows Try.func124 (c := Try.f124.body.getD .skip) (by kernel_rfl) ?_
  intro args s k r hk
  unfold laws_eqWrite_g at hk
  rcases onPats_inv hk with ⟨p, q, rfl, rfl⟩ | hk
  · exact ⟨laws_eqWrite_loops, laws_eqWrite_q p.1.1 p.1.2.1 p.1.2.2.1 p.2.1.1 p.2.1.2.1 p.2.1.2.2.1, laws_eqWrite_y p.1.1 p.1.2.1 p.1.2.2.1 p.2.1.1 p.2.1.2.1 p.2.1.2.2.1, laws_eqWrite_l⟩
  cases hk

def G29 : Glob := G28.add 124 laws_eqWrite_g

theorem G29_ok : GlobOk Try.prog G29 := G28_ok.add ⟨Try.f124, Try.func124, by kernel_rfl, by kernel_rfl⟩ laws_eqWrite_c

/-! ### loop.example/g00327/laws.eqWriteS -/

def laws_eqWriteS_loops : Nat → Option LoopSpec
  | 0 => some ⟨[0, 1, 4, 5], [], fun vals st k => onPats [.lst tWrite, .lst tWrite, .bool, .int .i64] [] vals st (fun p q => loopK laws_eqWriteS_b0 Fuel (p.1, p.2.1, p.2.2.1, p.2.2.2.1) (Sum.elim (fun z => k .ret [.lst tWrite z.1, .lst tWrite z.2.1, .bool z.2.2.1, .int .i64 z.2.2.2] []) (fun z => k (.exit 0) [.lst tWrite z.1, .lst tWrite z.2.1, .bool z.2.2.1, .int .i64 z.2.2.2] [])))
      (none)⟩
  | _ => none

def laws_eqWriteS_v0 : ((List dWrite) × (List dWrite) × Bool × Int) → List AV := (fun x => [.lst tWrite x.1, .lst tWrite x.2.1, .bool x.2.2.1, .int .i64 x.2.2.2])
def laws_eqWriteS_s0 : ((List dWrite) × (List dWrite) × Bool × Int) → St := (fun x => [])
def laws_eqWriteS_e0 : (((List dWrite) × (List dWrite) × Bool × Int) ⊕ ((List dWrite) × (List dWrite) × Bool × Int)) → Out × List AV × St := (Sum.elim (fun z => (.ret, [.lst tWrite z.1, .lst tWrite z.2.1, .bool z.2.2.1, .int .i64 z.2.2.2], [])) (fun z => ((.exit 0), [.lst tWrite z.1, .lst tWrite z.2.1, .bool z.2.2.1, .int .i64 z.2.2.2], [])))

theorem laws_eqWriteS_bx0 (x : ((List dWrite) × (List dWrite) × Bool × Int)) : exec G29 ⟨0, 27, laws_eqWriteS_loops⟩ (loopBody Try.f45 0) (bodyK ⟨0, 27, laws_eqWriteS_loops⟩ [0, 1, 4, 5] []) (setEs (deads 27) [0, 1, 4, 5] (laws_eqWriteS_v0 x)) (laws_eqWriteS_s0 x) = laws_eqWriteS_b0 x (Sum.elim (fun y => some ⟨.norm, laws_eqWriteS_v0 y, laws_eqWriteS_s0 y⟩) fun z => some ⟨(laws_eqWriteS_e0 z).1, (laws_eqWriteS_e0 z).2.1, (laws_eqWriteS_e0 z).2.2⟩) := by
  kernel_rfl

theorem laws_eqWriteS_lo0 : ∀ sp, (laws_eqWriteS_loops 0) = some sp → LoopOk G29 ⟨0, 27, laws_eqWriteS_loops⟩ sp (loopBody Try.f45 0) := by
  intro sp hsp vals st k r h
  cases hsp
  dsimp only at h
  rcases onPats_inv2 h with ⟨p, q, rfl, rfl, h⟩ | h
  · exact loop_runs2 laws_eqWriteS_bp0 laws_eqWriteS_v0 laws_eqWriteS_s0 laws_eqWriteS_e0 (fun z => by rcases z with z | z <;> (intro h; cases h)) laws_eqWriteS_bx0 Fuel (p.1, p.2.1, p.2.2.1, p.2.2.2.1) _ k r (fun z => by rcases z with z | z <;> rfl) h
  cases h

theorem laws_eqWriteS_x (a0 : (List dWrite)) (a1 : (List dWrite)) : execFn G29 laws_eqWriteS_loops Try.f45 [.lst tWrite a0, .lst tWrite a1] [] = laws_eqWriteS_d a0 a1 (fun (y : Bool) => some ⟨.ret, [.bool y], []⟩) := by kernel_rfl

theorem laws_eqWriteS_y (a0 : (List dWrite)) (a1 : (List dWrite)) : execFn G29 laws_eqWriteS_loops Try.f45 [.lst tWrite a0, .lst tWrite a1] [] = laws_eqWriteS_k a0 a1 (fun (y : Bool) => some ⟨.ret, [.bool y], []⟩) := (laws_eqWriteS_x a0 a1).trans (by rw [laws_eqWriteS_e])

theorem laws_eqWriteS_l : LoopsOk G29 ⟨0, 27, laws_eqWriteS_loops⟩ (Try.f45.body.getD .skip) :=
  loopsOk_of (ids := [0]) (by kernel_rfl) (by kernel_rfl) ⟨laws_eqWriteS_lo0, trivial⟩

theorem laws_eqWriteS_c : Contract Try.prog 45 laws_eqWriteS_g := by
  refine told G29_ok follows Try.func45 (c := Try.f45.body.getD .skip) (by kernel_rfl) ?_
  intro args s k r hk
  unfold laws_eqWriteS_g at hk
  rcases onPats_inv hk with ⟨p, q, rfl, rfl⟩ | hk
  · exact ⟨laws_eqWriteS_loops, laws_eqWriteS_q p.1 p.2.1, laws_eqWriteS_y p.1 p.2.1, laws_eqWriteS_l⟩
  cases hk

def G30 : Glob := G29.add 45 laws_eqWriteS_g

theorem G30_ok : GlobOk Try.prog G30 := G29_ok.add ⟨Try.f45, Try.func45, by kernel_rfl, by kernel_rfl⟩ laws_eqWriteS_c

/-! ### loop.example/g00327/laws.eqTxn -/

def laws_eqTxn_loops : Nat → Option LoopSpec
  | _ => none

theorem laws_eqTxn_x (a0 : Int) (a1 : Int) (a2 : Int) (a3 : Int) (a4 : (List dRange)) (a5 : (List dWrite)) (a6 : Bool) (a7 : ByteArray) (a8 : Int) (a9 : Int) (a10 : Int) (a11 : Int) (a12 : (List dRange)) (a13 : (List dWrite)) (a14 : Bool) (a15 : ByteArray) : execFn G30 laws_eqTxn_loops Try.f24 [.agg [.int .i64 a0, .int .i64 a1, .int .i64 a2, .int .i64 a3, .lst tRange a4, .lst tWrite a5, .bool a6, .str a7], .agg [.int .i64 a8, .int .i64 a9, .int .i64 a10, .int .i64 a11, .lst tRange a12, .lst tWrite a13, .bool a14, .str a15]] [] = laws_eqTxn_d (a0, (a1, (a2, (a3, (a4, (a5, (a6, a7))))))) (a8, (a9, (a10, (a11, (a12, (a13, (a14, a15))))))) (fun (y : Bool) => some ⟨.ret, [.bool y], []⟩) := by kernel_rfl

theorem laws_eqTxn_y (a0 : Int) (a1 : Int) (a2 : Int) (a3 : Int) (a4 : (List dRange)) (a5 : (List dWrite)) (a6 : Bool) (a7 : ByteArray) (a8 : Int) (a9 : Int) (a10 : Int) (a11 : Int) (a12 : (List dRange)) (a13 : (List dWrite)) (a14 : Bool) (a15 : ByteArray) : execFn G30 laws_eqTxn_loops Try.f24 [.agg [.int .i64 a0, .int .i64 a1, .int .i64 a2, .int .i64 a3, .lst tRange a4, .lst tWrite a5, .bool a6, .str a7], .agg [.int .i64 a8, .int .i64 a9, .int .i64 a10, .int .i64 a11, .lst tRange a12, .lst tWrite a13, .bool a14, .str a15]] [] = laws_eqTxn_k (a0, (a1, (a2, (a3, (a4, (a5, (a6, a7))))))) (a8, (a9, (a10, (a11, (a12, (a13, (a14, a15))))))) (fun (y : Bool) => some ⟨.ret, [.bool y], []⟩) := (laws_eqTxn_x a0 a1 a2 a3 a4 a5 a6 a7 a8 a9 a10 a11 a12 a13 a14 a15).trans (by rw [laws_eqTxn_e])

theorem laws_eqTxn_l : LoopsOk G30 ⟨0, 47, laws_eqTxn_loops⟩ (Try.f24.body.getD .skip) :=
  loopsOk_of (ids := []) (by kernel_rfl) (by kernel_rfl) trivial

theorem laws_eqTxn_c : Contract Try.prog 24 laws_eqTxn_g := by
  refine told G30_ok follows Try.func24 (c := Try.f24.body.getD .skip) (by kernel_rfl) ?_
  intro args s k r hk
  unfold laws_eqTxn_g at hk
  rcases onPats_inv hk with ⟨p, q, rfl, rfl⟩ | hk
  · exact ⟨laws_eqTxn_loops, laws_eqTxn_q p.1.1 p.1.2.1 p.1.2.2.1 p.1.2.2.2.1 p.1.2.2.2.2.1 p.1.2.2.2.2.2.1 p.1.2.2.2.2.2.2.1 p.1.2.2.2.2.2.2.2.1 p.2.1.1 p.2.1.2.1 p.2.1.2.2.1 p.2.1.2.2.2.1 p.2.1.2.2.2.2.1 p.2.1.2.2.2.2.2.1 p.2.1.2.2.2.2.2.2.1 p.2.1.2.2.2.2.2.2.2.1, laws_eqTxn_y p.1.1 p.1.2.1 p.1.2.2.1 p.1.2.2.2.1 p.1.2.2.2.2.1 p.1.2.2.2.2.2.1 p.1.2.2.2.2.2.2.1 p.1.2.2.2.2.2.2.2.1 p.2.1.1 p.2.1.2.1 p.2.1.2.2.1 p.2.1.2.2.2.1 p.2.1.2.2.2.2.1 p.2.1.2.2.2.2.2.1 p.2.1.2.2.2.2.2.2.1 p.2.1.2.2.2.2.2.2.2.1, laws_eqTxn_l⟩
  cases hk

def G31 : Glob := G30.add 24 laws_eqTxn_g

theorem G31_ok : GlobOk Try.prog G31 := G30_ok.add ⟨Try.f24, Try.func24, by kernel_rfl, by kernel_rfl⟩ laws_eqTxn_c

/-! ### loop.example/g00327/laws.eqTxnS -/

def laws_eqTxnS_loops : Nat → Option LoopSpec
  | 0 => some ⟨[0, 1, 4, 5], [], fun vals st k => onPats [.lst tTxn, .lst tTxn, .bool, .int .i64] [] vals st (fun p q => loopK laws_eqTxnS_b0 Fuel (p.1, p.2.1, p.2.2.1, p.2.2.2.1) (Sum.elim (fun z => k .ret [.lst tTxn z.1, .lst tTxn z.2.1, .bool z.2.2.1, .int .i64 z.2.2.2] []) (fun z => k (.exit 0) [.lst tTxn z.1, .lst tTxn z.2.1, .bool z.2.2.1, .int .i64 z.2.2.2] [])))
      (none)⟩
  | _ => none

def laws_eqTxnS_v0 : ((List dTxn) × (List dTxn) × Bool × Int) → List AV := (fun x => [.lst tTxn x.1, .lst tTxn x.2.1, .bool x.2.2.1, .int .i64 x.2.2.2])
def laws_eqTxnS_s0 : ((List dTxn) × (List dTxn) × Bool × Int) → St := (fun x => [])
def laws_eqTxnS_e0 : (((List dTxn) × (List dTxn) × Bool × Int) ⊕ ((List dTxn) × (List dTxn) × Bool × Int)) → Out × List AV × St := (Sum.elim (fun z => (.ret, [.lst tTxn z.1, .lst tTxn z.2.1, .bool z.2.2.1, .int .i64 z.2.2.2], [])) (fun z => ((.exit 0), [.lst tTxn z.1, .lst tTxn z.2.1, .bool z.2.2.1, .int .i64 z.2.2.2], [])))

theorem laws_eqTxnS_bx0 (x : ((List dTxn) × (List dTxn) × Bool × Int)) : exec G31 ⟨0, 27, laws_eqTxnS_loops⟩ (loopBody Try.f83 0) (bodyK ⟨0, 27, laws_eqTxnS_loops⟩ [0, 1, 4, 5] []) (setEs (deads 27) [0, 1, 4, 5] (laws_eqTxnS_v0 x)) (laws_eqTxnS_s0 x) = laws_eqTxnS_b0 x (Sum.elim (fun y => some ⟨.norm, laws_eqTxnS_v0 y, laws_eqTxnS_s0 y⟩) fun z => some ⟨(laws_eqTxnS_e0 z).1, (laws_eqTxnS_e0 z).2.1, (laws_eqTxnS_e0 z).2.2⟩) := by
  kernel_rfl

theorem laws_eqTxnS_lo0 : ∀ sp, (laws_eqTxnS_loops 0) = some sp → LoopOk G31 ⟨0, 27, laws_eqTxnS_loops⟩ sp (loopBody Try.f83 0) := by
  intro sp hsp vals st k r h
  cases hsp
  dsimp only at h
  rcases onPats_inv2 h with ⟨p, q, rfl, rfl, h⟩ | h
  · exact loop_runs2 laws_eqTxnS_bp0 laws_eqTxnS_v0 laws_eqTxnS_s0 laws_eqTxnS_e0 (fun z => by rcases z with z | z <;> (intro h; cases h)) laws_eqTxnS_bx0 Fuel (p.1, p.2.1, p.2.2.1, p.2.2.2.1) _ k r (fun z => by rcases z with z | z <;> rfl) h
  cases h

theorem laws_eqTxnS_x (a0 : (List dTxn)) (a1 : (List dTxn)) : execFn G31 laws_eqTxnS_loops Try.f83 [.lst tTxn a0, .lst tTxn a1] [] = laws_eqTxnS_d a0 a1 (fun (y : Bool) => some ⟨.ret, [.bool y], []⟩) := by kernel_rfl

theorem laws_eqTxnS_y (a0 : (List dTxn)) (a1 : (List dTxn)) : execFn G31 laws_eqTxnS_loops Try.f83 [.lst tTxn a0, .lst tTxn a1] [] = laws_eqTxnS_k a0 a1 (fun (y : Bool) => some ⟨.ret, [.bool y], []⟩) := (laws_eqTxnS_x a0 a1).trans (by rw [laws_eqTxnS_e])

theorem laws_eqTxnS_l : LoopsOk G31 ⟨0, 27, laws_eqTxnS_loops⟩ (Try.f83.body.getD .skip) :=
  loopsOk_of (ids := [0]) (by kernel_rfl) (by kernel_rfl) ⟨laws_eqTxnS_lo0, trivial⟩

theorem laws_eqTxnS_c : Contract Try.prog 83 laws_eqTxnS_g := by
  refine told G31_ok follows Try.func83 (c := Try.f83.body.getD .skip) (by kernel_rfl) ?_
  intro args s k r hk
  unfold laws_eqTxnS_g at hk
  rcases onPats_inv hk with ⟨p, q, rfl, rfl⟩ | hk
  · exact ⟨laws_eqTxnS_loops, laws_eqTxnS_q p.1 p.2.1, laws_eqTxnS_y p.1 p.2.1, laws_eqTxnS_l⟩
  cases hk

def G32 : Glob := G31.add 83 laws_eqTxnS_g

theorem G32_ok : GlobOk Try.prog G32 := G31_ok.add ⟨Try.f83, Try.func83, by kernel_rfl, by kernel_rfl⟩ laws_eqTxnS_c

/-! ### loop.example/g00327/laws.eqBase -/

def laws_eqBase_loops : Nat → Option LoopSpec
  | _ => none

theorem laws_eqBase_x (a0 : (List dVersion)) (a1 : (List dTxn)) (a2 : (List dTxn)) (a3 : Int) (a4 : Int) (a5 : (List dVersion)) (a6 : (List dTxn)) (a7 : (List dTxn)) (a8 : Int) (a9 : Int) : execFn G32 laws_eqBase_loops Try.f19 [.agg [.lst tVersion a0, .lst tTxn a1, .lst tTxn a2, .int .i64 a3, .int .i64 a4], .agg [.lst tVersion a5, .lst tTxn a6, .lst tTxn a7, .int .i64 a8, .int .i64 a9]] [] = laws_eqBase_d (a0, (a1, (a2, (a3, a4)))) (a5, (a6, (a7, (a8, a9)))) (fun (y : Bool) => some ⟨.ret, [.bool y], []⟩) := by kernel_rfl

theorem laws_eqBase_y (a0 : (List dVersion)) (a1 : (List dTxn)) (a2 : (List dTxn)) (a3 : Int) (a4 : Int) (a5 : (List dVersion)) (a6 : (List dTxn)) (a7 : (List dTxn)) (a8 : Int) (a9 : Int) : execFn G32 laws_eqBase_loops Try.f19 [.agg [.lst tVersion a0, .lst tTxn a1, .lst tTxn a2, .int .i64 a3, .int .i64 a4], .agg [.lst tVersion a5, .lst tTxn a6, .lst tTxn a7, .int .i64 a8, .int .i64 a9]] [] = laws_eqBase_k (a0, (a1, (a2, (a3, a4)))) (a5, (a6, (a7, (a8, a9)))) (fun (y : Bool) => some ⟨.ret, [.bool y], []⟩) := (laws_eqBase_x a0 a1 a2 a3 a4 a5 a6 a7 a8 a9).trans (by rw [laws_eqBase_e])

theorem laws_eqBase_l : LoopsOk G32 ⟨0, 33, laws_eqBase_loops⟩ (Try.f19.body.getD .skip) :=
  loopsOk_of (ids := []) (by kernel_rfl) (by kernel_rfl) trivial

theorem laws_eqBase_c : Contract Try.prog 19 laws_eqBase_g := by
  refine told G32_ok follows Try.func19 (c := Try.f19.body.getD .skip) (by kernel_rfl) ?_
  intro args s k r hk
  unfold laws_eqBase_g at hk
  rcases onPats_inv hk with ⟨p, q, rfl, rfl⟩ | hk
  · exact ⟨laws_eqBase_loops, laws_eqBase_q p.1.1 p.1.2.1 p.1.2.2.1 p.1.2.2.2.1 p.1.2.2.2.2.1 p.2.1.1 p.2.1.2.1 p.2.1.2.2.1 p.2.1.2.2.2.1 p.2.1.2.2.2.2.1, laws_eqBase_y p.1.1 p.1.2.1 p.1.2.2.1 p.1.2.2.2.1 p.1.2.2.2.2.1 p.2.1.1 p.2.1.2.1 p.2.1.2.2.1 p.2.1.2.2.2.1 p.2.1.2.2.2.2.1, laws_eqBase_l⟩
  cases hk

def G33 : Glob := G32.add 19 laws_eqBase_g

theorem G33_ok : GlobOk Try.prog G33 := G32_ok.add ⟨Try.f19, Try.func19, by kernel_rfl, by kernel_rfl⟩ laws_eqBase_c

/-! ### loop.example/g00327/laws.eqEngine -/

def laws_eqEngine_loops : Nat → Option LoopSpec
  | _ => none

theorem laws_eqEngine_x (a0 : (List dVersion)) (a1 : (List dTxn)) (a2 : (List dTxn)) (a3 : Int) (a4 : Int) (a5 : (List dTxn)) (a6 : (List dVersion)) (a7 : (List dTxn)) (a8 : (List dTxn)) (a9 : Int) (a10 : Int) (a11 : (List dTxn)) : execFn G33 laws_eqEngine_loops Try.f53 [.agg [.lst tVersion a0, .lst tTxn a1, .lst tTxn a2, .int .i64 a3, .int .i64 a4, .lst tTxn a5], .agg [.lst tVersion a6, .lst tTxn a7, .lst tTxn a8, .int .i64 a9, .int .i64 a10, .lst tTxn a11]] [] = laws_eqEngine_d ((a0, (a1, (a2, (a3, a4)))), a5) ((a6, (a7, (a8, (a9, a10)))), a11) (fun (y : Bool) => some ⟨.ret, [.bool y], []⟩) := by kernel_rfl

theorem laws_eqEngine_y (a0 : (List dVersion)) (a1 : (List dTxn)) (a2 : (List dTxn)) (a3 : Int) (a4 : Int) (a5 : (List dTxn)) (a6 : (List dVersion)) (a7 : (List dTxn)) (a8 : (List dTxn)) (a9 : Int) (a10 : Int) (a11 : (List dTxn)) : execFn G33 laws_eqEngine_loops Try.f53 [.agg [.lst tVersion a0, .lst tTxn a1, .lst tTxn a2, .int .i64 a3, .int .i64 a4, .lst tTxn a5], .agg [.lst tVersion a6, .lst tTxn a7, .lst tTxn a8, .int .i64 a9, .int .i64 a10, .lst tTxn a11]] [] = laws_eqEngine_k ((a0, (a1, (a2, (a3, a4)))), a5) ((a6, (a7, (a8, (a9, a10)))), a11) (fun (y : Bool) => some ⟨.ret, [.bool y], []⟩) := (laws_eqEngine_x a0 a1 a2 a3 a4 a5 a6 a7 a8 a9 a10 a11).trans (by rw [laws_eqEngine_e])

theorem laws_eqEngine_l : LoopsOk G33 ⟨0, 17, laws_eqEngine_loops⟩ (Try.f53.body.getD .skip) :=
  loopsOk_of (ids := []) (by kernel_rfl) (by kernel_rfl) trivial

theorem laws_eqEngine_c : Contract Try.prog 53 laws_eqEngine_g := by
  refine told G33_ok follows Try.func53 (c := Try.f53.body.getD .skip) (by kernel_rfl) ?_
  intro args s k r hk
  unfold laws_eqEngine_g at hk
  rcases onPats_inv hk with ⟨p, q, rfl, rfl⟩ | hk
  · exact ⟨laws_eqEngine_loops, laws_eqEngine_q p.1.1 p.1.2.1 p.1.2.2.1 p.1.2.2.2.1 p.1.2.2.2.2.1 p.1.2.2.2.2.2.1 p.2.1.1 p.2.1.2.1 p.2.1.2.2.1 p.2.1.2.2.2.1 p.2.1.2.2.2.2.1 p.2.1.2.2.2.2.2.1, laws_eqEngine_y p.1.1 p.1.2.1 p.1.2.2.1 p.1.2.2.2.1 p.1.2.2.2.2.1 p.1.2.2.2.2.2.1 p.2.1.1 p.2.1.2.1 p.2.1.2.2.1 p.2.1.2.2.2.1 p.2.1.2.2.2.2.1 p.2.1.2.2.2.2.2.1, laws_eqEngine_l⟩
  cases hk

def G34 : Glob := G33.add 53 laws_eqEngine_g

theorem G34_ok : GlobOk Try.prog G34 := G33_ok.add ⟨Try.f53, Try.func53, by kernel_rfl, by kernel_rfl⟩ laws_eqEngine_c

/-! ### loop.example/g00327/laws.FnExactOpenAt -/

def laws_FnExactOpenAt_loops : Nat → Option LoopSpec
  | _ => none

theorem laws_FnExactOpenAt_x (a0 : (List dVersion)) (a1 : (List dTxn)) (a2 : (List dTxn)) (a3 : Int) (a4 : Int) (a5 : (List dTxn)) (a6 : Int) : execFn G34 laws_FnExactOpenAt_loops Try.f7 [.agg [.lst tVersion a0, .lst tTxn a1, .lst tTxn a2, .int .i64 a3, .int .i64 a4, .lst tTxn a5], .int .i64 a6] [] = laws_FnExactOpenAt_d ((a0, (a1, (a2, (a3, a4)))), a5) a6 (fun (y : Bool) => some ⟨.ret, [.bool y], []⟩) := by kernel_rfl

theorem laws_FnExactOpenAt_y (a0 : (List dVersion)) (a1 : (List dTxn)) (a2 : (List dTxn)) (a3 : Int) (a4 : Int) (a5 : (List dTxn)) (a6 : Int) : execFn G34 laws_FnExactOpenAt_loops Try.f7 [.agg [.lst tVersion a0, .lst tTxn a1, .lst tTxn a2, .int .i64 a3, .int .i64 a4, .lst tTxn a5], .int .i64 a6] [] = laws_FnExactOpenAt_k ((a0, (a1, (a2, (a3, a4)))), a5) a6 (fun (y : Bool) => some ⟨.ret, [.bool y], []⟩) := (laws_FnExactOpenAt_x a0 a1 a2 a3 a4 a5 a6).trans (by rw [laws_FnExactOpenAt_e])

theorem laws_FnExactOpenAt_l : LoopsOk G34 ⟨0, 31, laws_FnExactOpenAt_loops⟩ (Try.f7.body.getD .skip) :=
  loopsOk_of (ids := []) (by kernel_rfl) (by kernel_rfl) trivial

theorem laws_FnExactOpenAt_c : Contract Try.prog 7 laws_FnExactOpenAt_g := by
  refine told G34_ok follows Try.func7 (c := Try.f7.body.getD .skip) (by kernel_rfl) ?_
  intro args s k r hk
  unfold laws_FnExactOpenAt_g at hk
  rcases onPats_inv hk with ⟨p, q, rfl, rfl⟩ | hk
  · exact ⟨laws_FnExactOpenAt_loops, laws_FnExactOpenAt_q p.1.1 p.1.2.1 p.1.2.2.1 p.1.2.2.2.1 p.1.2.2.2.2.1 p.1.2.2.2.2.2.1 p.2.1, laws_FnExactOpenAt_y p.1.1 p.1.2.1 p.1.2.2.1 p.1.2.2.2.1 p.1.2.2.2.2.1 p.1.2.2.2.2.2.1 p.2.1, laws_FnExactOpenAt_l⟩
  cases hk

def G35 : Glob := G34.add 7 laws_FnExactOpenAt_g

theorem G35_ok : GlobOk Try.prog G35 := G34_ok.add ⟨Try.f7, Try.func7, by kernel_rfl, by kernel_rfl⟩ laws_FnExactOpenAt_c

end

end Go.VE
