/- Each function told by its native program; written by gen.py. -/

import Derived.Test.YteolgjmeigifbaaRecordTextS1

namespace Go.VE

open Go.Proofs

noncomputable section

set_option linter.unusedVariables false
set_option linter.unusedSimpArgs false
set_option maxRecDepth 100000




def impl_SumOf_loops : Nat → Option LoopSpec
  | _ => none

theorem impl_SumOf_y (a0 : ByteArray) : execFn G75 impl_SumOf_loops Try.f164 [.str a0] [] = impl_SumOf_k a0 (fun (y : Int) => some ⟨.ret, [.int .u32 y], []⟩) := by rw [impl_SumOf_e]; kernel_rfl

theorem impl_SumOf_l : LoopsOk G75 ⟨0, 5, impl_SumOf_loops⟩ (Try.f164.body.getD .skip) :=
  loopsOk_of (ids := []) (by kernel_rfl) (by kernel_rfl) trivial

theorem impl_SumOf_c : Contract Try.prog 164 impl_SumOf_g := by
  refine told G75_ok follows Try.func164 (c := Try.f164.body.getD .skip) (by kernel_rfl) ?_
  intro args s k r hk
  unfold impl_SumOf_g at hk
  rcases onPats_inv hk with ⟨p, q, rfl, rfl⟩ | hk
  · exact ⟨impl_SumOf_loops, impl_SumOf_q p.1, impl_SumOf_y p.1, impl_SumOf_l⟩
  cases hk

def G76 : Glob := G75.add 164 impl_SumOf_g

theorem G76_ok : GlobOk Try.prog G76 := G75_ok.add ⟨Try.f164, Try.func164, by kernel_rfl, by kernel_rfl⟩ impl_SumOf_c



def impl_Sealed_loops : Nat → Option LoopSpec
  | _ => none

theorem impl_Sealed_y (a0 : ByteArray) : execFn G76 impl_Sealed_loops Try.f92 [.str a0] [] = impl_Sealed_k a0 (fun (y : (ByteArray × Bool)) => some ⟨.ret, [.tup [.str y.1, .bool y.2]], []⟩) := by rw [impl_Sealed_e]; kernel_rfl

theorem impl_Sealed_l : LoopsOk G76 ⟨0, 25, impl_Sealed_loops⟩ (Try.f92.body.getD .skip) :=
  loopsOk_of (ids := []) (by kernel_rfl) (by kernel_rfl) trivial

theorem impl_Sealed_c : Contract Try.prog 92 impl_Sealed_g := by
  refine told G76_ok follows Try.func92 (c := Try.f92.body.getD .skip) (by kernel_rfl) ?_
  intro args s k r hk
  unfold impl_Sealed_g at hk
  rcases onPats_inv hk with ⟨p, q, rfl, rfl⟩ | hk
  · exact ⟨impl_Sealed_loops, impl_Sealed_q p.1, impl_Sealed_y p.1, impl_Sealed_l⟩
  cases hk

def G77 : Glob := G76.add 92 impl_Sealed_g

theorem G77_ok : GlobOk Try.prog G77 := G76_ok.add ⟨Try.f92, Try.func92, by kernel_rfl, by kernel_rfl⟩ impl_Sealed_c



def impl_RecordText_loops : Nat → Option LoopSpec
  | 5000013 => some ⟨[2, 3, 4], [], fun vals st k => onPats [.str, .bool, .bp 0 0] [.box [.own 1], .arr (.int .u8)] vals st (fun p q => impl_RecordText_j5000013 (p.1, p.2.1, q.2.1) (fun z => k .ret [.str z.1, .bool z.2.1, .bp 0 0] [.box [.own 1], .arr (.int .u8) z.2.2]))
      (none)⟩
  | _ => none

def impl_RecordText_jv5000013 : q38T → List AV := (fun x => [.str x.1, .bool x.2.1, .bp 0 0])
def impl_RecordText_js5000013 : q38T → St := (fun x => [.box [.own 1], .arr (.int .u8) x.2.2])
def impl_RecordText_je5000013 : q38T → Out × List AV × St := (fun z => (.ret, [.str z.1, .bool z.2.1, .bp 0 0], [.box [.own 1], .arr (.int .u8) z.2.2]))

theorem impl_RecordText_jx5000013 (x : q38T) : exec G77 ⟨0, 71, impl_RecordText_loops⟩ (loopBody Try.f27 5000013) (bodyK ⟨0, 71, impl_RecordText_loops⟩ [2, 3, 4] []) (setEs (deads 71) [2, 3, 4] (impl_RecordText_jv5000013 x)) (impl_RecordText_js5000013 x) = impl_RecordText_j5000013 x (fun z => some ⟨(impl_RecordText_je5000013 z).1, (impl_RecordText_je5000013 z).2.1, (impl_RecordText_je5000013 z).2.2⟩) := by
  kernel_rfl

theorem impl_RecordText_lo5000013 : ∀ sp, (impl_RecordText_loops 5000013) = some sp → CutOk G77 ⟨0, 71, impl_RecordText_loops⟩ sp (loopBody Try.f27 5000013) := by
  intro sp hsp vals st k r h
  cases hsp
  dsimp only at h
  rcases onPats_inv2 h with ⟨p, q, rfl, rfl, h⟩ | h
  · exact cut_runs impl_RecordText_jp5000013 impl_RecordText_jv5000013 impl_RecordText_js5000013 impl_RecordText_je5000013 impl_RecordText_jx5000013 (p.1, p.2.1, q.2.1) _ k r (fun z => rfl) h
  cases h

theorem impl_RecordText_y (a0 : Int) (a1 : Int) (a2 : Int) (a3 : Int) (a4 : Int) (a5 : (List dRange)) (a6 : (List dWrite)) (a7 : Bool) (a8 : ByteArray) (a9 : ByteArray) (a10 : Bool) (a11 : (List dVersion)) (a12 : (List dTxn)) (a13 : (List dTxn)) (a14 : Int) (a15 : Int) : execFn G77 impl_RecordText_loops Try.f27 [.agg [.int .i64 a0, .int .i64 a1, .int .i64 a2, .int .i64 a3, .int .i64 a4, .lst tRange a5, .lst tWrite a6, .bool a7, .str a8, .str a9, .bool a10, .lst tVersion a11, .lst tTxn a12, .lst tTxn a13, .int .i64 a14, .int .i64 a15]] [] = impl_RecordText_k (a0, ((a1, (a2, (a3, (a4, (a5, (a6, (a7, a8))))))), (a9, (a10, (a11, (a12, (a13, (a14, a15)))))))) (fun (y : (ByteArray × Bool)) => some ⟨.ret, [.tup [.str y.1, .bool y.2]], []⟩) := by rw [impl_RecordText_e]; kernel_rfl

theorem impl_RecordText_l : LoopsOk G77 ⟨0, 71, impl_RecordText_loops⟩ (Try.f27.body.getD .skip) :=
  loopsOk_of (ids := [5000013]) (by kernel_rfl) (by kernel_rfl) ⟨impl_RecordText_lo5000013, trivial⟩

theorem impl_RecordText_c : Contract Try.prog 27 impl_RecordText_g := by
  refine told G77_ok follows Try.func27 (c := Try.f27.body.getD .skip) (by kernel_rfl) ?_
  intro args s k r hk
  unfold impl_RecordText_g at hk
  rcases onPats_inv hk with ⟨p, q, rfl, rfl⟩ | hk
  · exact ⟨impl_RecordText_loops, impl_RecordText_q p.1.1 p.1.2.1 p.1.2.2.1 p.1.2.2.2.1 p.1.2.2.2.2.1 p.1.2.2.2.2.2.1 p.1.2.2.2.2.2.2.1 p.1.2.2.2.2.2.2.2.1 p.1.2.2.2.2.2.2.2.2.1 p.1.2.2.2.2.2.2.2.2.2.1 p.1.2.2.2.2.2.2.2.2.2.2.1 p.1.2.2.2.2.2.2.2.2.2.2.2.1 p.1.2.2.2.2.2.2.2.2.2.2.2.2.1 p.1.2.2.2.2.2.2.2.2.2.2.2.2.2.1 p.1.2.2.2.2.2.2.2.2.2.2.2.2.2.2.1 p.1.2.2.2.2.2.2.2.2.2.2.2.2.2.2.2.1, impl_RecordText_y p.1.1 p.1.2.1 p.1.2.2.1 p.1.2.2.2.1 p.1.2.2.2.2.1 p.1.2.2.2.2.2.1 p.1.2.2.2.2.2.2.1 p.1.2.2.2.2.2.2.2.1 p.1.2.2.2.2.2.2.2.2.1 p.1.2.2.2.2.2.2.2.2.2.1 p.1.2.2.2.2.2.2.2.2.2.2.1 p.1.2.2.2.2.2.2.2.2.2.2.2.1 p.1.2.2.2.2.2.2.2.2.2.2.2.2.1 p.1.2.2.2.2.2.2.2.2.2.2.2.2.2.1 p.1.2.2.2.2.2.2.2.2.2.2.2.2.2.2.1 p.1.2.2.2.2.2.2.2.2.2.2.2.2.2.2.2.1, impl_RecordText_l⟩
  cases hk

def G78 : Glob := G77.add 27 impl_RecordText_g

theorem G78_ok : GlobOk Try.prog G78 := G77_ok.add ⟨Try.f27, Try.func27, by kernel_rfl, by kernel_rfl⟩ impl_RecordText_c



def laws_eqRange_loops : Nat → Option LoopSpec
  | _ => none

theorem laws_eqRange_y (a0 : ByteArray) (a1 : ByteArray) (a2 : ByteArray) (a3 : ByteArray) : execFn G78 laws_eqRange_loops Try.f149 [.agg [.str a0, .str a1], .agg [.str a2, .str a3]] [] = laws_eqRange_k (a0, a1) (a2, a3) (fun (y : Bool) => some ⟨.ret, [.bool y], []⟩) := by rw [laws_eqRange_e]; kernel_rfl

theorem laws_eqRange_l : LoopsOk G78 ⟨0, 15, laws_eqRange_loops⟩ (Try.f149.body.getD .skip) :=
  loopsOk_of (ids := []) (by kernel_rfl) (by kernel_rfl) trivial

theorem laws_eqRange_c : Contract Try.prog 149 laws_eqRange_g := by
  refine told G78_ok follows Try.func149 (c := Try.f149.body.getD .skip) (by kernel_rfl) ?_
  intro args s k r hk
  unfold laws_eqRange_g at hk
  rcases onPats_inv hk with ⟨p, q, rfl, rfl⟩ | hk
  · exact ⟨laws_eqRange_loops, laws_eqRange_q p.1.1 p.1.2.1 p.2.1.1 p.2.1.2.1, laws_eqRange_y p.1.1 p.1.2.1 p.2.1.1 p.2.1.2.1, laws_eqRange_l⟩
  cases hk

def G79 : Glob := G78.add 149 laws_eqRange_g

theorem G79_ok : GlobOk Try.prog G79 := G78_ok.add ⟨Try.f149, Try.func149, by kernel_rfl, by kernel_rfl⟩ laws_eqRange_c



def laws_eqRangeS_loops : Nat → Option LoopSpec
  | 0 => some ⟨[0, 1, 4, 5], [], fun vals st k => onPats [.lst tRange, .lst tRange, .bool, .int .i64] [] vals st (fun p q => loopK laws_eqRangeS_b0 Fuel (p.1, p.2.1, p.2.2.1, p.2.2.2.1) (Sum.elim (fun z => k .ret [.lst tRange z.1, .lst tRange z.2.1, .bool z.2.2.1, .int .i64 z.2.2.2] []) (fun z => k (.exit 0) [.lst tRange z.1, .lst tRange z.2.1, .bool z.2.2.1, .int .i64 z.2.2.2] [])))
      (none)⟩
  | 2000006 => some ⟨[0, 2, 4, 6, 8, 10, 12, 14, 16, 18], [], fun _ _ _ => none⟩
  | _ => none

def laws_eqRangeS_v0 : q4T → List AV := (fun x => [.lst tRange x.1, .lst tRange x.2.1, .bool x.2.2.1, .int .i64 x.2.2.2])
def laws_eqRangeS_s0 : q4T → St := (fun x => [])
def laws_eqRangeS_e0 : (q4T ⊕ q4T) → Out × List AV × St := (Sum.elim (fun z => (.ret, [.lst tRange z.1, .lst tRange z.2.1, .bool z.2.2.1, .int .i64 z.2.2.2], [])) (fun z => ((.exit 0), [.lst tRange z.1, .lst tRange z.2.1, .bool z.2.2.1, .int .i64 z.2.2.2], [])))

theorem laws_eqRangeS_bx0 (x : q4T) : exec G79 ⟨0, 27, laws_eqRangeS_loops⟩ (loopBody Try.f76 0) (bodyK ⟨0, 27, laws_eqRangeS_loops⟩ [0, 1, 4, 5] []) (setEs (deads 27) [0, 1, 4, 5] (laws_eqRangeS_v0 x)) (laws_eqRangeS_s0 x) = laws_eqRangeS_b0 x (Sum.elim (fun y => some ⟨.norm, laws_eqRangeS_v0 y, laws_eqRangeS_s0 y⟩) fun z => some ⟨(laws_eqRangeS_e0 z).1, (laws_eqRangeS_e0 z).2.1, (laws_eqRangeS_e0 z).2.2⟩) := by
  kernel_rfl

theorem laws_eqRangeS_lo0 : ∀ sp, (laws_eqRangeS_loops 0) = some sp → LoopOk G79 ⟨0, 27, laws_eqRangeS_loops⟩ sp (loopBody Try.f76 0) := by
  intro sp hsp vals st k r h
  cases hsp
  dsimp only at h
  rcases onPats_inv2 h with ⟨p, q, rfl, rfl, h⟩ | h
  · exact loop_runs2 laws_eqRangeS_bp0 laws_eqRangeS_v0 laws_eqRangeS_s0 laws_eqRangeS_e0 (fun z => by rcases z with z | z <;> (intro h; cases h)) laws_eqRangeS_bx0 Fuel (p.1, p.2.1, p.2.2.1, p.2.2.2.1) _ k r (fun z => by rcases z with z | z <;> rfl) h
  cases h

theorem laws_eqRangeS_y (a0 : (List dRange)) (a1 : (List dRange)) : execFn G79 laws_eqRangeS_loops Try.f76 [.lst tRange a0, .lst tRange a1] [] = laws_eqRangeS_k a0 a1 (fun (y : Bool) => some ⟨.ret, [.bool y], []⟩) := by rw [laws_eqRangeS_e]; kernel_rfl

theorem laws_eqRangeS_l : LoopsOk G79 ⟨0, 27, laws_eqRangeS_loops⟩ (Try.f76.body.getD .skip) :=
  loopsOk_of (ids := [0]) (by kernel_rfl) (by kernel_rfl) ⟨laws_eqRangeS_lo0, trivial⟩

theorem laws_eqRangeS_c : Contract Try.prog 76 laws_eqRangeS_g := by
  refine told G79_ok follows Try.func76 (c := Try.f76.body.getD .skip) (by kernel_rfl) ?_
  intro args s k r hk
  unfold laws_eqRangeS_g at hk
  rcases onPats_inv hk with ⟨p, q, rfl, rfl⟩ | hk
  · exact ⟨laws_eqRangeS_loops, laws_eqRangeS_q p.1 p.2.1, laws_eqRangeS_y p.1 p.2.1, laws_eqRangeS_l⟩
  cases hk

def G80 : Glob := G79.add 76 laws_eqRangeS_g

theorem G80_ok : GlobOk Try.prog G80 := G79_ok.add ⟨Try.f76, Try.func76, by kernel_rfl, by kernel_rfl⟩ laws_eqRangeS_c



def laws_eqWrite_loops : Nat → Option LoopSpec
  | _ => none

theorem laws_eqWrite_y (a0 : ByteArray) (a1 : ByteArray) (a2 : Bool) (a3 : ByteArray) (a4 : ByteArray) (a5 : Bool) : execFn G80 laws_eqWrite_loops Try.f150 [.agg [.str a0, .str a1, .bool a2], .agg [.str a3, .str a4, .bool a5]] [] = laws_eqWrite_k (a0, (a1, a2)) (a3, (a4, a5)) (fun (y : Bool) => some ⟨.ret, [.bool y], []⟩) := by rw [laws_eqWrite_e]; kernel_rfl

theorem laws_eqWrite_l : LoopsOk G80 ⟨0, 20, laws_eqWrite_loops⟩ (Try.f150.body.getD .skip) :=
  loopsOk_of (ids := []) (by kernel_rfl) (by kernel_rfl) trivial

theorem laws_eqWrite_c : Contract Try.prog 150 laws_eqWrite_g := by
  refine told G80_ok follows Try.func150 (c := Try.f150.body.getD .skip) (by kernel_rfl) ?_
  intro args s k r hk
  unfold laws_eqWrite_g at hk
  rcases onPats_inv hk with ⟨p, q, rfl, rfl⟩ | hk
  · exact ⟨laws_eqWrite_loops, laws_eqWrite_q p.1.1 p.1.2.1 p.1.2.2.1 p.2.1.1 p.2.1.2.1 p.2.1.2.2.1, laws_eqWrite_y p.1.1 p.1.2.1 p.1.2.2.1 p.2.1.1 p.2.1.2.1 p.2.1.2.2.1, laws_eqWrite_l⟩
  cases hk

def G81 : Glob := G80.add 150 laws_eqWrite_g

theorem G81_ok : GlobOk Try.prog G81 := G80_ok.add ⟨Try.f150, Try.func150, by kernel_rfl, by kernel_rfl⟩ laws_eqWrite_c



def laws_eqWriteS_loops : Nat → Option LoopSpec
  | 0 => some ⟨[0, 1, 4, 5], [], fun vals st k => onPats [.lst tWrite, .lst tWrite, .bool, .int .i64] [] vals st (fun p q => loopK laws_eqWriteS_b0 Fuel (p.1, p.2.1, p.2.2.1, p.2.2.2.1) (Sum.elim (fun z => k .ret [.lst tWrite z.1, .lst tWrite z.2.1, .bool z.2.2.1, .int .i64 z.2.2.2] []) (fun z => k (.exit 0) [.lst tWrite z.1, .lst tWrite z.2.1, .bool z.2.2.1, .int .i64 z.2.2.2] [])))
      (none)⟩
  | 2000006 => some ⟨[0, 2, 4, 6, 8, 10, 12, 14, 16, 18], [], fun _ _ _ => none⟩
  | _ => none

def laws_eqWriteS_v0 : q20T → List AV := (fun x => [.lst tWrite x.1, .lst tWrite x.2.1, .bool x.2.2.1, .int .i64 x.2.2.2])
def laws_eqWriteS_s0 : q20T → St := (fun x => [])
def laws_eqWriteS_e0 : (q20T ⊕ q20T) → Out × List AV × St := (Sum.elim (fun z => (.ret, [.lst tWrite z.1, .lst tWrite z.2.1, .bool z.2.2.1, .int .i64 z.2.2.2], [])) (fun z => ((.exit 0), [.lst tWrite z.1, .lst tWrite z.2.1, .bool z.2.2.1, .int .i64 z.2.2.2], [])))

theorem laws_eqWriteS_bx0 (x : q20T) : exec G81 ⟨0, 27, laws_eqWriteS_loops⟩ (loopBody Try.f77 0) (bodyK ⟨0, 27, laws_eqWriteS_loops⟩ [0, 1, 4, 5] []) (setEs (deads 27) [0, 1, 4, 5] (laws_eqWriteS_v0 x)) (laws_eqWriteS_s0 x) = laws_eqWriteS_b0 x (Sum.elim (fun y => some ⟨.norm, laws_eqWriteS_v0 y, laws_eqWriteS_s0 y⟩) fun z => some ⟨(laws_eqWriteS_e0 z).1, (laws_eqWriteS_e0 z).2.1, (laws_eqWriteS_e0 z).2.2⟩) := by
  kernel_rfl

theorem laws_eqWriteS_lo0 : ∀ sp, (laws_eqWriteS_loops 0) = some sp → LoopOk G81 ⟨0, 27, laws_eqWriteS_loops⟩ sp (loopBody Try.f77 0) := by
  intro sp hsp vals st k r h
  cases hsp
  dsimp only at h
  rcases onPats_inv2 h with ⟨p, q, rfl, rfl, h⟩ | h
  · exact loop_runs2 laws_eqWriteS_bp0 laws_eqWriteS_v0 laws_eqWriteS_s0 laws_eqWriteS_e0 (fun z => by rcases z with z | z <;> (intro h; cases h)) laws_eqWriteS_bx0 Fuel (p.1, p.2.1, p.2.2.1, p.2.2.2.1) _ k r (fun z => by rcases z with z | z <;> rfl) h
  cases h

theorem laws_eqWriteS_y (a0 : (List dWrite)) (a1 : (List dWrite)) : execFn G81 laws_eqWriteS_loops Try.f77 [.lst tWrite a0, .lst tWrite a1] [] = laws_eqWriteS_k a0 a1 (fun (y : Bool) => some ⟨.ret, [.bool y], []⟩) := by rw [laws_eqWriteS_e]; kernel_rfl

theorem laws_eqWriteS_l : LoopsOk G81 ⟨0, 27, laws_eqWriteS_loops⟩ (Try.f77.body.getD .skip) :=
  loopsOk_of (ids := [0]) (by kernel_rfl) (by kernel_rfl) ⟨laws_eqWriteS_lo0, trivial⟩

theorem laws_eqWriteS_c : Contract Try.prog 77 laws_eqWriteS_g := by
  refine told G81_ok follows Try.func77 (c := Try.f77.body.getD .skip) (by kernel_rfl) ?_
  intro args s k r hk
  unfold laws_eqWriteS_g at hk
  rcases onPats_inv hk with ⟨p, q, rfl, rfl⟩ | hk
  · exact ⟨laws_eqWriteS_loops, laws_eqWriteS_q p.1 p.2.1, laws_eqWriteS_y p.1 p.2.1, laws_eqWriteS_l⟩
  cases hk

def G82 : Glob := G81.add 77 laws_eqWriteS_g

theorem G82_ok : GlobOk Try.prog G82 := G81_ok.add ⟨Try.f77, Try.func77, by kernel_rfl, by kernel_rfl⟩ laws_eqWriteS_c



def laws_eqTxn_loops : Nat → Option LoopSpec
  | _ => none

theorem laws_eqTxn_y (a0 : Int) (a1 : Int) (a2 : Int) (a3 : Int) (a4 : (List dRange)) (a5 : (List dWrite)) (a6 : Bool) (a7 : ByteArray) (a8 : Int) (a9 : Int) (a10 : Int) (a11 : Int) (a12 : (List dRange)) (a13 : (List dWrite)) (a14 : Bool) (a15 : ByteArray) : execFn G82 laws_eqTxn_loops Try.f18 [.agg [.int .i64 a0, .int .i64 a1, .int .i64 a2, .int .i64 a3, .lst tRange a4, .lst tWrite a5, .bool a6, .str a7], .agg [.int .i64 a8, .int .i64 a9, .int .i64 a10, .int .i64 a11, .lst tRange a12, .lst tWrite a13, .bool a14, .str a15]] [] = laws_eqTxn_k (a0, (a1, (a2, (a3, (a4, (a5, (a6, a7))))))) (a8, (a9, (a10, (a11, (a12, (a13, (a14, a15))))))) (fun (y : Bool) => some ⟨.ret, [.bool y], []⟩) := by rw [laws_eqTxn_e]; kernel_rfl

theorem laws_eqTxn_l : LoopsOk G82 ⟨0, 47, laws_eqTxn_loops⟩ (Try.f18.body.getD .skip) :=
  loopsOk_of (ids := []) (by kernel_rfl) (by kernel_rfl) trivial

theorem laws_eqTxn_c : Contract Try.prog 18 laws_eqTxn_g := by
  refine told G82_ok follows Try.func18 (c := Try.f18.body.getD .skip) (by kernel_rfl) ?_
  intro args s k r hk
  unfold laws_eqTxn_g at hk
  rcases onPats_inv hk with ⟨p, q, rfl, rfl⟩ | hk
  · exact ⟨laws_eqTxn_loops, laws_eqTxn_q p.1.1 p.1.2.1 p.1.2.2.1 p.1.2.2.2.1 p.1.2.2.2.2.1 p.1.2.2.2.2.2.1 p.1.2.2.2.2.2.2.1 p.1.2.2.2.2.2.2.2.1 p.2.1.1 p.2.1.2.1 p.2.1.2.2.1 p.2.1.2.2.2.1 p.2.1.2.2.2.2.1 p.2.1.2.2.2.2.2.1 p.2.1.2.2.2.2.2.2.1 p.2.1.2.2.2.2.2.2.2.1, laws_eqTxn_y p.1.1 p.1.2.1 p.1.2.2.1 p.1.2.2.2.1 p.1.2.2.2.2.1 p.1.2.2.2.2.2.1 p.1.2.2.2.2.2.2.1 p.1.2.2.2.2.2.2.2.1 p.2.1.1 p.2.1.2.1 p.2.1.2.2.1 p.2.1.2.2.2.1 p.2.1.2.2.2.2.1 p.2.1.2.2.2.2.2.1 p.2.1.2.2.2.2.2.2.1 p.2.1.2.2.2.2.2.2.2.1, laws_eqTxn_l⟩
  cases hk

def G83 : Glob := G82.add 18 laws_eqTxn_g

theorem G83_ok : GlobOk Try.prog G83 := G82_ok.add ⟨Try.f18, Try.func18, by kernel_rfl, by kernel_rfl⟩ laws_eqTxn_c



def laws_eqVersion_loops : Nat → Option LoopSpec
  | _ => none

theorem laws_eqVersion_y (a0 : ByteArray) (a1 : ByteArray) (a2 : Bool) (a3 : Int) (a4 : ByteArray) (a5 : ByteArray) (a6 : Bool) (a7 : Int) : execFn G83 laws_eqVersion_loops Try.f78 [.agg [.str a0, .str a1, .bool a2, .int .i64 a3], .agg [.str a4, .str a5, .bool a6, .int .i64 a7]] [] = laws_eqVersion_k (a0, (a1, (a2, a3))) (a4, (a5, (a6, a7))) (fun (y : Bool) => some ⟨.ret, [.bool y], []⟩) := by rw [laws_eqVersion_e]; kernel_rfl

theorem laws_eqVersion_l : LoopsOk G83 ⟨0, 25, laws_eqVersion_loops⟩ (Try.f78.body.getD .skip) :=
  loopsOk_of (ids := []) (by kernel_rfl) (by kernel_rfl) trivial

theorem laws_eqVersion_c : Contract Try.prog 78 laws_eqVersion_g := by
  refine told G83_ok follows Try.func78 (c := Try.f78.body.getD .skip) (by kernel_rfl) ?_
  intro args s k r hk
  unfold laws_eqVersion_g at hk
  rcases onPats_inv hk with ⟨p, q, rfl, rfl⟩ | hk
  · exact ⟨laws_eqVersion_loops, laws_eqVersion_q p.1.1 p.1.2.1 p.1.2.2.1 p.1.2.2.2.1 p.2.1.1 p.2.1.2.1 p.2.1.2.2.1 p.2.1.2.2.2.1, laws_eqVersion_y p.1.1 p.1.2.1 p.1.2.2.1 p.1.2.2.2.1 p.2.1.1 p.2.1.2.1 p.2.1.2.2.1 p.2.1.2.2.2.1, laws_eqVersion_l⟩
  cases hk

def G84 : Glob := G83.add 78 laws_eqVersion_g

theorem G84_ok : GlobOk Try.prog G84 := G83_ok.add ⟨Try.f78, Try.func78, by kernel_rfl, by kernel_rfl⟩ laws_eqVersion_c



def laws_eqVersionS_loops : Nat → Option LoopSpec
  | 0 => some ⟨[0, 1, 4, 5], [], fun vals st k => onPats [.lst tVersion, .lst tVersion, .bool, .int .i64] [] vals st (fun p q => loopK laws_eqVersionS_b0 Fuel (p.1, p.2.1, p.2.2.1, p.2.2.2.1) (Sum.elim (fun z => k .ret [.lst tVersion z.1, .lst tVersion z.2.1, .bool z.2.2.1, .int .i64 z.2.2.2] []) (fun z => k (.exit 0) [.lst tVersion z.1, .lst tVersion z.2.1, .bool z.2.2.1, .int .i64 z.2.2.2] [])))
      (none)⟩
  | 2000006 => some ⟨[0, 2, 4, 6, 8, 10, 12, 14, 16, 18], [], fun _ _ _ => none⟩
  | _ => none

def laws_eqVersionS_v0 : q14T → List AV := (fun x => [.lst tVersion x.1, .lst tVersion x.2.1, .bool x.2.2.1, .int .i64 x.2.2.2])
def laws_eqVersionS_s0 : q14T → St := (fun x => [])
def laws_eqVersionS_e0 : (q14T ⊕ q14T) → Out × List AV × St := (Sum.elim (fun z => (.ret, [.lst tVersion z.1, .lst tVersion z.2.1, .bool z.2.2.1, .int .i64 z.2.2.2], [])) (fun z => ((.exit 0), [.lst tVersion z.1, .lst tVersion z.2.1, .bool z.2.2.1, .int .i64 z.2.2.2], [])))

theorem laws_eqVersionS_bx0 (x : q14T) : exec G84 ⟨0, 27, laws_eqVersionS_loops⟩ (loopBody Try.f19 0) (bodyK ⟨0, 27, laws_eqVersionS_loops⟩ [0, 1, 4, 5] []) (setEs (deads 27) [0, 1, 4, 5] (laws_eqVersionS_v0 x)) (laws_eqVersionS_s0 x) = laws_eqVersionS_b0 x (Sum.elim (fun y => some ⟨.norm, laws_eqVersionS_v0 y, laws_eqVersionS_s0 y⟩) fun z => some ⟨(laws_eqVersionS_e0 z).1, (laws_eqVersionS_e0 z).2.1, (laws_eqVersionS_e0 z).2.2⟩) := by
  kernel_rfl

theorem laws_eqVersionS_lo0 : ∀ sp, (laws_eqVersionS_loops 0) = some sp → LoopOk G84 ⟨0, 27, laws_eqVersionS_loops⟩ sp (loopBody Try.f19 0) := by
  intro sp hsp vals st k r h
  cases hsp
  dsimp only at h
  rcases onPats_inv2 h with ⟨p, q, rfl, rfl, h⟩ | h
  · exact loop_runs2 laws_eqVersionS_bp0 laws_eqVersionS_v0 laws_eqVersionS_s0 laws_eqVersionS_e0 (fun z => by rcases z with z | z <;> (intro h; cases h)) laws_eqVersionS_bx0 Fuel (p.1, p.2.1, p.2.2.1, p.2.2.2.1) _ k r (fun z => by rcases z with z | z <;> rfl) h
  cases h

theorem laws_eqVersionS_y (a0 : (List dVersion)) (a1 : (List dVersion)) : execFn G84 laws_eqVersionS_loops Try.f19 [.lst tVersion a0, .lst tVersion a1] [] = laws_eqVersionS_k a0 a1 (fun (y : Bool) => some ⟨.ret, [.bool y], []⟩) := by rw [laws_eqVersionS_e]; kernel_rfl

theorem laws_eqVersionS_l : LoopsOk G84 ⟨0, 27, laws_eqVersionS_loops⟩ (Try.f19.body.getD .skip) :=
  loopsOk_of (ids := [0]) (by kernel_rfl) (by kernel_rfl) ⟨laws_eqVersionS_lo0, trivial⟩

theorem laws_eqVersionS_c : Contract Try.prog 19 laws_eqVersionS_g := by
  refine told G84_ok follows Try.func19 (c := Try.f19.body.getD .skip) (by kernel_rfl) ?_
  intro args s k r hk
  unfold laws_eqVersionS_g at hk
  rcases onPats_inv hk with ⟨p, q, rfl, rfl⟩ | hk
  · exact ⟨laws_eqVersionS_loops, laws_eqVersionS_q p.1 p.2.1, laws_eqVersionS_y p.1 p.2.1, laws_eqVersionS_l⟩
  cases hk

def G85 : Glob := G84.add 19 laws_eqVersionS_g

theorem G85_ok : GlobOk Try.prog G85 := G84_ok.add ⟨Try.f19, Try.func19, by kernel_rfl, by kernel_rfl⟩ laws_eqVersionS_c



def laws_eqTxnS_loops : Nat → Option LoopSpec
  | 0 => some ⟨[0, 1, 4, 5], [], fun vals st k => onPats [.lst tTxn, .lst tTxn, .bool, .int .i64] [] vals st (fun p q => loopK laws_eqTxnS_b0 Fuel (p.1, p.2.1, p.2.2.1, p.2.2.2.1) (Sum.elim (fun z => k .ret [.lst tTxn z.1, .lst tTxn z.2.1, .bool z.2.2.1, .int .i64 z.2.2.2] []) (fun z => k (.exit 0) [.lst tTxn z.1, .lst tTxn z.2.1, .bool z.2.2.1, .int .i64 z.2.2.2] [])))
      (none)⟩
  | 2000006 => some ⟨[0, 2, 4, 6, 8, 10, 12, 14, 16, 18], [], fun _ _ _ => none⟩
  | _ => none

def laws_eqTxnS_v0 : q8T → List AV := (fun x => [.lst tTxn x.1, .lst tTxn x.2.1, .bool x.2.2.1, .int .i64 x.2.2.2])
def laws_eqTxnS_s0 : q8T → St := (fun x => [])
def laws_eqTxnS_e0 : (q8T ⊕ q8T) → Out × List AV × St := (Sum.elim (fun z => (.ret, [.lst tTxn z.1, .lst tTxn z.2.1, .bool z.2.2.1, .int .i64 z.2.2.2], [])) (fun z => ((.exit 0), [.lst tTxn z.1, .lst tTxn z.2.1, .bool z.2.2.1, .int .i64 z.2.2.2], [])))

theorem laws_eqTxnS_bx0 (x : q8T) : exec G85 ⟨0, 27, laws_eqTxnS_loops⟩ (loopBody Try.f134 0) (bodyK ⟨0, 27, laws_eqTxnS_loops⟩ [0, 1, 4, 5] []) (setEs (deads 27) [0, 1, 4, 5] (laws_eqTxnS_v0 x)) (laws_eqTxnS_s0 x) = laws_eqTxnS_b0 x (Sum.elim (fun y => some ⟨.norm, laws_eqTxnS_v0 y, laws_eqTxnS_s0 y⟩) fun z => some ⟨(laws_eqTxnS_e0 z).1, (laws_eqTxnS_e0 z).2.1, (laws_eqTxnS_e0 z).2.2⟩) := by
  kernel_rfl

theorem laws_eqTxnS_lo0 : ∀ sp, (laws_eqTxnS_loops 0) = some sp → LoopOk G85 ⟨0, 27, laws_eqTxnS_loops⟩ sp (loopBody Try.f134 0) := by
  intro sp hsp vals st k r h
  cases hsp
  dsimp only at h
  rcases onPats_inv2 h with ⟨p, q, rfl, rfl, h⟩ | h
  · exact loop_runs2 laws_eqTxnS_bp0 laws_eqTxnS_v0 laws_eqTxnS_s0 laws_eqTxnS_e0 (fun z => by rcases z with z | z <;> (intro h; cases h)) laws_eqTxnS_bx0 Fuel (p.1, p.2.1, p.2.2.1, p.2.2.2.1) _ k r (fun z => by rcases z with z | z <;> rfl) h
  cases h

theorem laws_eqTxnS_y (a0 : (List dTxn)) (a1 : (List dTxn)) : execFn G85 laws_eqTxnS_loops Try.f134 [.lst tTxn a0, .lst tTxn a1] [] = laws_eqTxnS_k a0 a1 (fun (y : Bool) => some ⟨.ret, [.bool y], []⟩) := by rw [laws_eqTxnS_e]; kernel_rfl

theorem laws_eqTxnS_l : LoopsOk G85 ⟨0, 27, laws_eqTxnS_loops⟩ (Try.f134.body.getD .skip) :=
  loopsOk_of (ids := [0]) (by kernel_rfl) (by kernel_rfl) ⟨laws_eqTxnS_lo0, trivial⟩

theorem laws_eqTxnS_c : Contract Try.prog 134 laws_eqTxnS_g := by
  refine told G85_ok follows Try.func134 (c := Try.f134.body.getD .skip) (by kernel_rfl) ?_
  intro args s k r hk
  unfold laws_eqTxnS_g at hk
  rcases onPats_inv hk with ⟨p, q, rfl, rfl⟩ | hk
  · exact ⟨laws_eqTxnS_loops, laws_eqTxnS_q p.1 p.2.1, laws_eqTxnS_y p.1 p.2.1, laws_eqTxnS_l⟩
  cases hk

def G86 : Glob := G85.add 134 laws_eqTxnS_g

theorem G86_ok : GlobOk Try.prog G86 := G85_ok.add ⟨Try.f134, Try.func134, by kernel_rfl, by kernel_rfl⟩ laws_eqTxnS_c



def laws_eqBase_loops : Nat → Option LoopSpec
  | _ => none

theorem laws_eqBase_y (a0 : (List dVersion)) (a1 : (List dTxn)) (a2 : (List dTxn)) (a3 : Int) (a4 : Int) (a5 : (List dVersion)) (a6 : (List dTxn)) (a7 : (List dTxn)) (a8 : Int) (a9 : Int) : execFn G86 laws_eqBase_loops Try.f63 [.agg [.lst tVersion a0, .lst tTxn a1, .lst tTxn a2, .int .i64 a3, .int .i64 a4], .agg [.lst tVersion a5, .lst tTxn a6, .lst tTxn a7, .int .i64 a8, .int .i64 a9]] [] = laws_eqBase_k (a0, (a1, (a2, (a3, a4)))) (a5, (a6, (a7, (a8, a9)))) (fun (y : Bool) => some ⟨.ret, [.bool y], []⟩) := by rw [laws_eqBase_e]; kernel_rfl

theorem laws_eqBase_l : LoopsOk G86 ⟨0, 33, laws_eqBase_loops⟩ (Try.f63.body.getD .skip) :=
  loopsOk_of (ids := []) (by kernel_rfl) (by kernel_rfl) trivial

theorem laws_eqBase_c : Contract Try.prog 63 laws_eqBase_g := by
  refine told G86_ok follows Try.func63 (c := Try.f63.body.getD .skip) (by kernel_rfl) ?_
  intro args s k r hk
  unfold laws_eqBase_g at hk
  rcases onPats_inv hk with ⟨p, q, rfl, rfl⟩ | hk
  · exact ⟨laws_eqBase_loops, laws_eqBase_q p.1.1 p.1.2.1 p.1.2.2.1 p.1.2.2.2.1 p.1.2.2.2.2.1 p.2.1.1 p.2.1.2.1 p.2.1.2.2.1 p.2.1.2.2.2.1 p.2.1.2.2.2.2.1, laws_eqBase_y p.1.1 p.1.2.1 p.1.2.2.1 p.1.2.2.2.1 p.1.2.2.2.2.1 p.2.1.1 p.2.1.2.1 p.2.1.2.2.1 p.2.1.2.2.2.1 p.2.1.2.2.2.2.1, laws_eqBase_l⟩
  cases hk

def G87 : Glob := G86.add 63 laws_eqBase_g

theorem G87_ok : GlobOk Try.prog G87 := G86_ok.add ⟨Try.f63, Try.func63, by kernel_rfl, by kernel_rfl⟩ laws_eqBase_c



def laws_eqRecord_loops : Nat → Option LoopSpec
  | _ => none

theorem laws_eqRecord_y (a0 : Int) (a1 : Int) (a2 : Int) (a3 : Int) (a4 : Int) (a5 : (List dRange)) (a6 : (List dWrite)) (a7 : Bool) (a8 : ByteArray) (a9 : ByteArray) (a10 : Bool) (a11 : (List dVersion)) (a12 : (List dTxn)) (a13 : (List dTxn)) (a14 : Int) (a15 : Int) (a16 : Int) (a17 : Int) (a18 : Int) (a19 : Int) (a20 : Int) (a21 : (List dRange)) (a22 : (List dWrite)) (a23 : Bool) (a24 : ByteArray) (a25 : ByteArray) (a26 : Bool) (a27 : (List dVersion)) (a28 : (List dTxn)) (a29 : (List dTxn)) (a30 : Int) (a31 : Int) : execFn G87 laws_eqRecord_loops Try.f28 [.agg [.int .i64 a0, .int .i64 a1, .int .i64 a2, .int .i64 a3, .int .i64 a4, .lst tRange a5, .lst tWrite a6, .bool a7, .str a8, .str a9, .bool a10, .lst tVersion a11, .lst tTxn a12, .lst tTxn a13, .int .i64 a14, .int .i64 a15], .agg [.int .i64 a16, .int .i64 a17, .int .i64 a18, .int .i64 a19, .int .i64 a20, .lst tRange a21, .lst tWrite a22, .bool a23, .str a24, .str a25, .bool a26, .lst tVersion a27, .lst tTxn a28, .lst tTxn a29, .int .i64 a30, .int .i64 a31]] [] = laws_eqRecord_k (a0, ((a1, (a2, (a3, (a4, (a5, (a6, (a7, a8))))))), (a9, (a10, (a11, (a12, (a13, (a14, a15)))))))) (a16, ((a17, (a18, (a19, (a20, (a21, (a22, (a23, a24))))))), (a25, (a26, (a27, (a28, (a29, (a30, a31)))))))) (fun (y : Bool) => some ⟨.ret, [.bool y], []⟩) := by rw [laws_eqRecord_e]; kernel_rfl

theorem laws_eqRecord_l : LoopsOk G87 ⟨0, 32, laws_eqRecord_loops⟩ (Try.f28.body.getD .skip) :=
  loopsOk_of (ids := []) (by kernel_rfl) (by kernel_rfl) trivial

theorem laws_eqRecord_c : Contract Try.prog 28 laws_eqRecord_g := by
  refine told G87_ok follows Try.func28 (c := Try.f28.body.getD .skip) (by kernel_rfl) ?_
  intro args s k r hk
  unfold laws_eqRecord_g at hk
  rcases onPats_inv hk with ⟨p, q, rfl, rfl⟩ | hk
  · exact ⟨laws_eqRecord_loops, laws_eqRecord_q p.1.1 p.1.2.1 p.1.2.2.1 p.1.2.2.2.1 p.1.2.2.2.2.1 p.1.2.2.2.2.2.1 p.1.2.2.2.2.2.2.1 p.1.2.2.2.2.2.2.2.1 p.1.2.2.2.2.2.2.2.2.1 p.1.2.2.2.2.2.2.2.2.2.1 p.1.2.2.2.2.2.2.2.2.2.2.1 p.1.2.2.2.2.2.2.2.2.2.2.2.1 p.1.2.2.2.2.2.2.2.2.2.2.2.2.1 p.1.2.2.2.2.2.2.2.2.2.2.2.2.2.1 p.1.2.2.2.2.2.2.2.2.2.2.2.2.2.2.1 p.1.2.2.2.2.2.2.2.2.2.2.2.2.2.2.2.1 p.2.1.1 p.2.1.2.1 p.2.1.2.2.1 p.2.1.2.2.2.1 p.2.1.2.2.2.2.1 p.2.1.2.2.2.2.2.1 p.2.1.2.2.2.2.2.2.1 p.2.1.2.2.2.2.2.2.2.1 p.2.1.2.2.2.2.2.2.2.2.1 p.2.1.2.2.2.2.2.2.2.2.2.1 p.2.1.2.2.2.2.2.2.2.2.2.2.1 p.2.1.2.2.2.2.2.2.2.2.2.2.2.1 p.2.1.2.2.2.2.2.2.2.2.2.2.2.2.1 p.2.1.2.2.2.2.2.2.2.2.2.2.2.2.2.1 p.2.1.2.2.2.2.2.2.2.2.2.2.2.2.2.2.1 p.2.1.2.2.2.2.2.2.2.2.2.2.2.2.2.2.2.1, laws_eqRecord_y p.1.1 p.1.2.1 p.1.2.2.1 p.1.2.2.2.1 p.1.2.2.2.2.1 p.1.2.2.2.2.2.1 p.1.2.2.2.2.2.2.1 p.1.2.2.2.2.2.2.2.1 p.1.2.2.2.2.2.2.2.2.1 p.1.2.2.2.2.2.2.2.2.2.1 p.1.2.2.2.2.2.2.2.2.2.2.1 p.1.2.2.2.2.2.2.2.2.2.2.2.1 p.1.2.2.2.2.2.2.2.2.2.2.2.2.1 p.1.2.2.2.2.2.2.2.2.2.2.2.2.2.1 p.1.2.2.2.2.2.2.2.2.2.2.2.2.2.2.1 p.1.2.2.2.2.2.2.2.2.2.2.2.2.2.2.2.1 p.2.1.1 p.2.1.2.1 p.2.1.2.2.1 p.2.1.2.2.2.1 p.2.1.2.2.2.2.1 p.2.1.2.2.2.2.2.1 p.2.1.2.2.2.2.2.2.1 p.2.1.2.2.2.2.2.2.2.1 p.2.1.2.2.2.2.2.2.2.2.1 p.2.1.2.2.2.2.2.2.2.2.2.1 p.2.1.2.2.2.2.2.2.2.2.2.2.1 p.2.1.2.2.2.2.2.2.2.2.2.2.2.1 p.2.1.2.2.2.2.2.2.2.2.2.2.2.2.1 p.2.1.2.2.2.2.2.2.2.2.2.2.2.2.2.1 p.2.1.2.2.2.2.2.2.2.2.2.2.2.2.2.2.1 p.2.1.2.2.2.2.2.2.2.2.2.2.2.2.2.2.2.1, laws_eqRecord_l⟩
  cases hk

def G88 : Glob := G87.add 28 laws_eqRecord_g

theorem G88_ok : GlobOk Try.prog G88 := G87_ok.add ⟨Try.f28, Try.func28, by kernel_rfl, by kernel_rfl⟩ laws_eqRecord_c



def laws_FnExactRecordText_loops : Nat → Option LoopSpec
  | 5000010 => some ⟨[1, 2, 6], [], fun vals st k => onPats [.bp 0 0, .bool, .bp 1 0] [.box [.int .i64, .int .i64, .int .i64, .int .i64, .int .i64, .lst tRange, .lst tWrite, .bool, .str, .str, .bool, .lst tVersion, .lst tTxn, .lst tTxn, .int .i64, .int .i64], .box [.int .i64, .int .i64, .int .i64, .int .i64, .int .i64, .own 2, .own 3, .bool, .str, .str, .bool, .own 4, .own 5, .own 6, .int .i64, .int .i64], .arr tRange, .arr tWrite, .arr tVersion, .arr tTxn, .arr tTxn] vals st (fun p q => laws_FnExactRecordText_j5000010 (p.2.1, q.1.1, q.1.2.1, q.1.2.2.1, q.1.2.2.2.1, q.1.2.2.2.2.1, q.1.2.2.2.2.2.1, q.1.2.2.2.2.2.2.1, q.1.2.2.2.2.2.2.2.1, q.1.2.2.2.2.2.2.2.2.1, q.1.2.2.2.2.2.2.2.2.2.1, q.1.2.2.2.2.2.2.2.2.2.2.1, q.1.2.2.2.2.2.2.2.2.2.2.2.1, q.1.2.2.2.2.2.2.2.2.2.2.2.2.1, q.1.2.2.2.2.2.2.2.2.2.2.2.2.2.1, q.1.2.2.2.2.2.2.2.2.2.2.2.2.2.2.1, q.1.2.2.2.2.2.2.2.2.2.2.2.2.2.2.2.1, q.2.1.1, q.2.1.2.1, q.2.1.2.2.1, q.2.1.2.2.2.1, q.2.1.2.2.2.2.1, q.2.1.2.2.2.2.2.2.2.1, q.2.1.2.2.2.2.2.2.2.2.1, q.2.1.2.2.2.2.2.2.2.2.2.1, q.2.1.2.2.2.2.2.2.2.2.2.2.1, q.2.1.2.2.2.2.2.2.2.2.2.2.2.2.2.2.1, q.2.1.2.2.2.2.2.2.2.2.2.2.2.2.2.2.2.1, q.2.2.1, q.2.2.2.1, q.2.2.2.2.1, q.2.2.2.2.2.1, q.2.2.2.2.2.2.1) (fun z => k .ret [.bp 0 0, .bool z.1, .bp 1 0] [.box [.int .i64 z.2.1, .int .i64 z.2.2.1, .int .i64 z.2.2.2.1, .int .i64 z.2.2.2.2.1, .int .i64 z.2.2.2.2.2.1, .lst tRange z.2.2.2.2.2.2.1, .lst tWrite z.2.2.2.2.2.2.2.1, .bool z.2.2.2.2.2.2.2.2.1, .str z.2.2.2.2.2.2.2.2.2.1, .str z.2.2.2.2.2.2.2.2.2.2.1, .bool z.2.2.2.2.2.2.2.2.2.2.2.1, .lst tVersion z.2.2.2.2.2.2.2.2.2.2.2.2.1, .lst tTxn z.2.2.2.2.2.2.2.2.2.2.2.2.2.1, .lst tTxn z.2.2.2.2.2.2.2.2.2.2.2.2.2.2.1, .int .i64 z.2.2.2.2.2.2.2.2.2.2.2.2.2.2.2.1, .int .i64 z.2.2.2.2.2.2.2.2.2.2.2.2.2.2.2.2.1], .box [.int .i64 z.2.2.2.2.2.2.2.2.2.2.2.2.2.2.2.2.2.1, .int .i64 z.2.2.2.2.2.2.2.2.2.2.2.2.2.2.2.2.2.2.1, .int .i64 z.2.2.2.2.2.2.2.2.2.2.2.2.2.2.2.2.2.2.2.1, .int .i64 z.2.2.2.2.2.2.2.2.2.2.2.2.2.2.2.2.2.2.2.2.1, .int .i64 z.2.2.2.2.2.2.2.2.2.2.2.2.2.2.2.2.2.2.2.2.2.1, .own 2, .own 3, .bool z.2.2.2.2.2.2.2.2.2.2.2.2.2.2.2.2.2.2.2.2.2.2.1, .str z.2.2.2.2.2.2.2.2.2.2.2.2.2.2.2.2.2.2.2.2.2.2.2.1, .str z.2.2.2.2.2.2.2.2.2.2.2.2.2.2.2.2.2.2.2.2.2.2.2.2.1, .bool z.2.2.2.2.2.2.2.2.2.2.2.2.2.2.2.2.2.2.2.2.2.2.2.2.2.1, .own 4, .own 5, .own 6, .int .i64 z.2.2.2.2.2.2.2.2.2.2.2.2.2.2.2.2.2.2.2.2.2.2.2.2.2.2.1, .int .i64 z.2.2.2.2.2.2.2.2.2.2.2.2.2.2.2.2.2.2.2.2.2.2.2.2.2.2.2.1], .arr tRange z.2.2.2.2.2.2.2.2.2.2.2.2.2.2.2.2.2.2.2.2.2.2.2.2.2.2.2.2.1, .arr tWrite z.2.2.2.2.2.2.2.2.2.2.2.2.2.2.2.2.2.2.2.2.2.2.2.2.2.2.2.2.2.1, .arr tVersion z.2.2.2.2.2.2.2.2.2.2.2.2.2.2.2.2.2.2.2.2.2.2.2.2.2.2.2.2.2.2.1, .arr tTxn z.2.2.2.2.2.2.2.2.2.2.2.2.2.2.2.2.2.2.2.2.2.2.2.2.2.2.2.2.2.2.2.1, .arr tTxn z.2.2.2.2.2.2.2.2.2.2.2.2.2.2.2.2.2.2.2.2.2.2.2.2.2.2.2.2.2.2.2.2]))
      (none)⟩
  | _ => none

def laws_FnExactRecordText_jv5000010 : q35T → List AV := (fun x => [.bp 0 0, .bool x.1, .bp 1 0])
def laws_FnExactRecordText_js5000010 : q35T → St := (fun x => [.box [.int .i64 x.2.1, .int .i64 x.2.2.1, .int .i64 x.2.2.2.1, .int .i64 x.2.2.2.2.1, .int .i64 x.2.2.2.2.2.1, .lst tRange x.2.2.2.2.2.2.1, .lst tWrite x.2.2.2.2.2.2.2.1, .bool x.2.2.2.2.2.2.2.2.1, .str x.2.2.2.2.2.2.2.2.2.1, .str x.2.2.2.2.2.2.2.2.2.2.1, .bool x.2.2.2.2.2.2.2.2.2.2.2.1, .lst tVersion x.2.2.2.2.2.2.2.2.2.2.2.2.1, .lst tTxn x.2.2.2.2.2.2.2.2.2.2.2.2.2.1, .lst tTxn x.2.2.2.2.2.2.2.2.2.2.2.2.2.2.1, .int .i64 x.2.2.2.2.2.2.2.2.2.2.2.2.2.2.2.1, .int .i64 x.2.2.2.2.2.2.2.2.2.2.2.2.2.2.2.2.1], .box [.int .i64 x.2.2.2.2.2.2.2.2.2.2.2.2.2.2.2.2.2.1, .int .i64 x.2.2.2.2.2.2.2.2.2.2.2.2.2.2.2.2.2.2.1, .int .i64 x.2.2.2.2.2.2.2.2.2.2.2.2.2.2.2.2.2.2.2.1, .int .i64 x.2.2.2.2.2.2.2.2.2.2.2.2.2.2.2.2.2.2.2.2.1, .int .i64 x.2.2.2.2.2.2.2.2.2.2.2.2.2.2.2.2.2.2.2.2.2.1, .own 2, .own 3, .bool x.2.2.2.2.2.2.2.2.2.2.2.2.2.2.2.2.2.2.2.2.2.2.1, .str x.2.2.2.2.2.2.2.2.2.2.2.2.2.2.2.2.2.2.2.2.2.2.2.1, .str x.2.2.2.2.2.2.2.2.2.2.2.2.2.2.2.2.2.2.2.2.2.2.2.2.1, .bool x.2.2.2.2.2.2.2.2.2.2.2.2.2.2.2.2.2.2.2.2.2.2.2.2.2.1, .own 4, .own 5, .own 6, .int .i64 x.2.2.2.2.2.2.2.2.2.2.2.2.2.2.2.2.2.2.2.2.2.2.2.2.2.2.1, .int .i64 x.2.2.2.2.2.2.2.2.2.2.2.2.2.2.2.2.2.2.2.2.2.2.2.2.2.2.2.1], .arr tRange x.2.2.2.2.2.2.2.2.2.2.2.2.2.2.2.2.2.2.2.2.2.2.2.2.2.2.2.2.1, .arr tWrite x.2.2.2.2.2.2.2.2.2.2.2.2.2.2.2.2.2.2.2.2.2.2.2.2.2.2.2.2.2.1, .arr tVersion x.2.2.2.2.2.2.2.2.2.2.2.2.2.2.2.2.2.2.2.2.2.2.2.2.2.2.2.2.2.2.1, .arr tTxn x.2.2.2.2.2.2.2.2.2.2.2.2.2.2.2.2.2.2.2.2.2.2.2.2.2.2.2.2.2.2.2.1, .arr tTxn x.2.2.2.2.2.2.2.2.2.2.2.2.2.2.2.2.2.2.2.2.2.2.2.2.2.2.2.2.2.2.2.2])
def laws_FnExactRecordText_je5000010 : q35T → Out × List AV × St := (fun z => (.ret, [.bp 0 0, .bool z.1, .bp 1 0], [.box [.int .i64 z.2.1, .int .i64 z.2.2.1, .int .i64 z.2.2.2.1, .int .i64 z.2.2.2.2.1, .int .i64 z.2.2.2.2.2.1, .lst tRange z.2.2.2.2.2.2.1, .lst tWrite z.2.2.2.2.2.2.2.1, .bool z.2.2.2.2.2.2.2.2.1, .str z.2.2.2.2.2.2.2.2.2.1, .str z.2.2.2.2.2.2.2.2.2.2.1, .bool z.2.2.2.2.2.2.2.2.2.2.2.1, .lst tVersion z.2.2.2.2.2.2.2.2.2.2.2.2.1, .lst tTxn z.2.2.2.2.2.2.2.2.2.2.2.2.2.1, .lst tTxn z.2.2.2.2.2.2.2.2.2.2.2.2.2.2.1, .int .i64 z.2.2.2.2.2.2.2.2.2.2.2.2.2.2.2.1, .int .i64 z.2.2.2.2.2.2.2.2.2.2.2.2.2.2.2.2.1], .box [.int .i64 z.2.2.2.2.2.2.2.2.2.2.2.2.2.2.2.2.2.1, .int .i64 z.2.2.2.2.2.2.2.2.2.2.2.2.2.2.2.2.2.2.1, .int .i64 z.2.2.2.2.2.2.2.2.2.2.2.2.2.2.2.2.2.2.2.1, .int .i64 z.2.2.2.2.2.2.2.2.2.2.2.2.2.2.2.2.2.2.2.2.1, .int .i64 z.2.2.2.2.2.2.2.2.2.2.2.2.2.2.2.2.2.2.2.2.2.1, .own 2, .own 3, .bool z.2.2.2.2.2.2.2.2.2.2.2.2.2.2.2.2.2.2.2.2.2.2.1, .str z.2.2.2.2.2.2.2.2.2.2.2.2.2.2.2.2.2.2.2.2.2.2.2.1, .str z.2.2.2.2.2.2.2.2.2.2.2.2.2.2.2.2.2.2.2.2.2.2.2.2.1, .bool z.2.2.2.2.2.2.2.2.2.2.2.2.2.2.2.2.2.2.2.2.2.2.2.2.2.1, .own 4, .own 5, .own 6, .int .i64 z.2.2.2.2.2.2.2.2.2.2.2.2.2.2.2.2.2.2.2.2.2.2.2.2.2.2.1, .int .i64 z.2.2.2.2.2.2.2.2.2.2.2.2.2.2.2.2.2.2.2.2.2.2.2.2.2.2.2.1], .arr tRange z.2.2.2.2.2.2.2.2.2.2.2.2.2.2.2.2.2.2.2.2.2.2.2.2.2.2.2.2.1, .arr tWrite z.2.2.2.2.2.2.2.2.2.2.2.2.2.2.2.2.2.2.2.2.2.2.2.2.2.2.2.2.2.1, .arr tVersion z.2.2.2.2.2.2.2.2.2.2.2.2.2.2.2.2.2.2.2.2.2.2.2.2.2.2.2.2.2.2.1, .arr tTxn z.2.2.2.2.2.2.2.2.2.2.2.2.2.2.2.2.2.2.2.2.2.2.2.2.2.2.2.2.2.2.2.1, .arr tTxn z.2.2.2.2.2.2.2.2.2.2.2.2.2.2.2.2.2.2.2.2.2.2.2.2.2.2.2.2.2.2.2.2]))

theorem laws_FnExactRecordText_jx5000010 (x : q35T) : exec G88 ⟨0, 40, laws_FnExactRecordText_loops⟩ (loopBody Try.f4 5000010) (bodyK ⟨0, 40, laws_FnExactRecordText_loops⟩ [1, 2, 6] []) (setEs (deads 40) [1, 2, 6] (laws_FnExactRecordText_jv5000010 x)) (laws_FnExactRecordText_js5000010 x) = laws_FnExactRecordText_j5000010 x (fun z => some ⟨(laws_FnExactRecordText_je5000010 z).1, (laws_FnExactRecordText_je5000010 z).2.1, (laws_FnExactRecordText_je5000010 z).2.2⟩) := by
  kernel_rfl

theorem laws_FnExactRecordText_lo5000010 : ∀ sp, (laws_FnExactRecordText_loops 5000010) = some sp → CutOk G88 ⟨0, 40, laws_FnExactRecordText_loops⟩ sp (loopBody Try.f4 5000010) := by
  intro sp hsp vals st k r h
  cases hsp
  dsimp only at h
  rcases onPats_inv2 h with ⟨p, q, rfl, rfl, h⟩ | h
  · exact cut_runs laws_FnExactRecordText_jp5000010 laws_FnExactRecordText_jv5000010 laws_FnExactRecordText_js5000010 laws_FnExactRecordText_je5000010 laws_FnExactRecordText_jx5000010 (p.2.1, q.1.1, q.1.2.1, q.1.2.2.1, q.1.2.2.2.1, q.1.2.2.2.2.1, q.1.2.2.2.2.2.1, q.1.2.2.2.2.2.2.1, q.1.2.2.2.2.2.2.2.1, q.1.2.2.2.2.2.2.2.2.1, q.1.2.2.2.2.2.2.2.2.2.1, q.1.2.2.2.2.2.2.2.2.2.2.1, q.1.2.2.2.2.2.2.2.2.2.2.2.1, q.1.2.2.2.2.2.2.2.2.2.2.2.2.1, q.1.2.2.2.2.2.2.2.2.2.2.2.2.2.1, q.1.2.2.2.2.2.2.2.2.2.2.2.2.2.2.1, q.1.2.2.2.2.2.2.2.2.2.2.2.2.2.2.2.1, q.2.1.1, q.2.1.2.1, q.2.1.2.2.1, q.2.1.2.2.2.1, q.2.1.2.2.2.2.1, q.2.1.2.2.2.2.2.2.2.1, q.2.1.2.2.2.2.2.2.2.2.1, q.2.1.2.2.2.2.2.2.2.2.2.1, q.2.1.2.2.2.2.2.2.2.2.2.2.1, q.2.1.2.2.2.2.2.2.2.2.2.2.2.2.2.2.1, q.2.1.2.2.2.2.2.2.2.2.2.2.2.2.2.2.2.1, q.2.2.1, q.2.2.2.1, q.2.2.2.2.1, q.2.2.2.2.2.1, q.2.2.2.2.2.2.1) _ k r (fun z => rfl) h
  cases h

theorem laws_FnExactRecordText_y (a0 : Int) (a1 : Int) (a2 : Int) (a3 : Int) (a4 : Int) (a5 : (List dRange)) (a6 : (List dWrite)) (a7 : Bool) (a8 : ByteArray) (a9 : ByteArray) (a10 : Bool) (a11 : (List dVersion)) (a12 : (List dTxn)) (a13 : (List dTxn)) (a14 : Int) (a15 : Int) : execFn G88 laws_FnExactRecordText_loops Try.f4 [.agg [.int .i64 a0, .int .i64 a1, .int .i64 a2, .int .i64 a3, .int .i64 a4, .lst tRange a5, .lst tWrite a6, .bool a7, .str a8, .str a9, .bool a10, .lst tVersion a11, .lst tTxn a12, .lst tTxn a13, .int .i64 a14, .int .i64 a15]] [] = laws_FnExactRecordText_k (a0, ((a1, (a2, (a3, (a4, (a5, (a6, (a7, a8))))))), (a9, (a10, (a11, (a12, (a13, (a14, a15)))))))) (fun (y : Bool) => some ⟨.ret, [.bool y], []⟩) := by rw [laws_FnExactRecordText_e]; kernel_rfl

theorem laws_FnExactRecordText_l : LoopsOk G88 ⟨0, 40, laws_FnExactRecordText_loops⟩ (Try.f4.body.getD .skip) :=
  loopsOk_of (ids := [5000010]) (by kernel_rfl) (by kernel_rfl) ⟨laws_FnExactRecordText_lo5000010, trivial⟩

theorem laws_FnExactRecordText_c : Contract Try.prog 4 laws_FnExactRecordText_g := by
  refine told G88_ok follows Try.func4 (c := Try.f4.body.getD .skip) (by kernel_rfl) ?_
  intro args s k r hk
  unfold laws_FnExactRecordText_g at hk
  rcases onPats_inv hk with ⟨p, q, rfl, rfl⟩ | hk
  · exact ⟨laws_FnExactRecordText_loops, laws_FnExactRecordText_q p.1.1 p.1.2.1 p.1.2.2.1 p.1.2.2.2.1 p.1.2.2.2.2.1 p.1.2.2.2.2.2.1 p.1.2.2.2.2.2.2.1 p.1.2.2.2.2.2.2.2.1 p.1.2.2.2.2.2.2.2.2.1 p.1.2.2.2.2.2.2.2.2.2.1 p.1.2.2.2.2.2.2.2.2.2.2.1 p.1.2.2.2.2.2.2.2.2.2.2.2.1 p.1.2.2.2.2.2.2.2.2.2.2.2.2.1 p.1.2.2.2.2.2.2.2.2.2.2.2.2.2.1 p.1.2.2.2.2.2.2.2.2.2.2.2.2.2.2.1 p.1.2.2.2.2.2.2.2.2.2.2.2.2.2.2.2.1, laws_FnExactRecordText_y p.1.1 p.1.2.1 p.1.2.2.1 p.1.2.2.2.1 p.1.2.2.2.2.1 p.1.2.2.2.2.2.1 p.1.2.2.2.2.2.2.1 p.1.2.2.2.2.2.2.2.1 p.1.2.2.2.2.2.2.2.2.1 p.1.2.2.2.2.2.2.2.2.2.1 p.1.2.2.2.2.2.2.2.2.2.2.1 p.1.2.2.2.2.2.2.2.2.2.2.2.1 p.1.2.2.2.2.2.2.2.2.2.2.2.2.1 p.1.2.2.2.2.2.2.2.2.2.2.2.2.2.1 p.1.2.2.2.2.2.2.2.2.2.2.2.2.2.2.1 p.1.2.2.2.2.2.2.2.2.2.2.2.2.2.2.2.1, laws_FnExactRecordText_l⟩
  cases hk

def G89 : Glob := G88.add 4 laws_FnExactRecordText_g

theorem G89_ok : GlobOk Try.prog G89 := G88_ok.add ⟨Try.f4, Try.func4, by kernel_rfl, by kernel_rfl⟩ laws_FnExactRecordText_c

end

end Go.VE
