/- Each function told by its native program; written by gen.py. -/

import Derived.Test.YtbedbcnmfoildaaFnDangersS1

namespace Go.VE

open Go.Proofs

noncomputable section

set_option linter.unusedVariables false
set_option linter.unusedSimpArgs false
set_option maxRecDepth 100000




def impl_Meets_loops : Nat → Option LoopSpec
  | 2 => some ⟨[1, 4, 6, 9, 10, 11, 15, 16, 17], [], fun vals st k => onPats [.lst tWrite, .bool, .bp 0 0, .lst tWrite, .int .i64, .int .i64, .lst tWrite, .int .i64, .int .i64] [.box [.str, .str, .bool]] vals st (fun p q => loopK impl_Meets_b2 Fuel (p.1, p.2.1, p.2.2.2.1, p.2.2.2.2.1, p.2.2.2.2.2.1, p.2.2.2.2.2.2.1, p.2.2.2.2.2.2.2.1, p.2.2.2.2.2.2.2.2.1, q.1.1, q.1.2.1, q.1.2.2.1) (Sum.elim (fun z => k .ret [.lst tWrite z.1, .bool z.2.1, .bp 0 0, .lst tWrite z.2.2.1, .int .i64 z.2.2.2.1, .int .i64 z.2.2.2.2.1, .lst tWrite z.2.2.2.2.2.1, .int .i64 z.2.2.2.2.2.2.1, .int .i64 z.2.2.2.2.2.2.2.1] [.box [.str z.2.2.2.2.2.2.2.2.1, .str z.2.2.2.2.2.2.2.2.2.1, .bool z.2.2.2.2.2.2.2.2.2.2]]) (fun z => k (.exit 2) [.lst tWrite z.1, .bool z.2.1, .bp 0 0, .lst tWrite z.2.2.1, .int .i64 z.2.2.2.1, .int .i64 z.2.2.2.2.1, .lst tWrite z.2.2.2.2.2.1, .int .i64 z.2.2.2.2.2.2.1, .int .i64 z.2.2.2.2.2.2.2.1] [.box [.str z.2.2.2.2.2.2.2.2.1, .str z.2.2.2.2.2.2.2.2.2.1, .bool z.2.2.2.2.2.2.2.2.2.2]])))
      (none)⟩
  | 0 => some ⟨[1, 4, 9, 10, 11], [], fun vals st k => onPats [.lst tWrite, .bool, .lst tWrite, .int .i64, .int .i64] [] vals st (fun p q => loopK impl_Meets_b0 Fuel (p.1, p.2.1, p.2.2.1, p.2.2.2.1, p.2.2.2.2.1) (Sum.elim (fun z => k (.exit 0) [.lst tWrite z.1, .bool z.2.1, .lst tWrite z.2.2.1, .int .i64 z.2.2.2.1, .int .i64 z.2.2.2.2] []) (fun z => k .ret [.lst tWrite z.1, .bool z.2.1, .lst tWrite z.2.2.1, .int .i64 z.2.2.2.1, .int .i64 z.2.2.2.2] [])))
      (none)⟩
  | _ => none

def impl_Meets_v2 : q20T → List AV := (fun x => [.lst tWrite x.1, .bool x.2.1, .bp 0 0, .lst tWrite x.2.2.1, .int .i64 x.2.2.2.1, .int .i64 x.2.2.2.2.1, .lst tWrite x.2.2.2.2.2.1, .int .i64 x.2.2.2.2.2.2.1, .int .i64 x.2.2.2.2.2.2.2.1])
def impl_Meets_s2 : q20T → St := (fun x => [.box [.str x.2.2.2.2.2.2.2.2.1, .str x.2.2.2.2.2.2.2.2.2.1, .bool x.2.2.2.2.2.2.2.2.2.2]])
def impl_Meets_e2 : (q20T ⊕ q20T) → Out × List AV × St := (Sum.elim (fun z => (.ret, [.lst tWrite z.1, .bool z.2.1, .bp 0 0, .lst tWrite z.2.2.1, .int .i64 z.2.2.2.1, .int .i64 z.2.2.2.2.1, .lst tWrite z.2.2.2.2.2.1, .int .i64 z.2.2.2.2.2.2.1, .int .i64 z.2.2.2.2.2.2.2.1], [.box [.str z.2.2.2.2.2.2.2.2.1, .str z.2.2.2.2.2.2.2.2.2.1, .bool z.2.2.2.2.2.2.2.2.2.2]])) (fun z => ((.exit 2), [.lst tWrite z.1, .bool z.2.1, .bp 0 0, .lst tWrite z.2.2.1, .int .i64 z.2.2.2.1, .int .i64 z.2.2.2.2.1, .lst tWrite z.2.2.2.2.2.1, .int .i64 z.2.2.2.2.2.2.1, .int .i64 z.2.2.2.2.2.2.2.1], [.box [.str z.2.2.2.2.2.2.2.2.1, .str z.2.2.2.2.2.2.2.2.2.1, .bool z.2.2.2.2.2.2.2.2.2.2]])))

theorem impl_Meets_bx2 (x : q20T) : exec G72 ⟨0, 28, impl_Meets_loops⟩ (loopBody Try.f115 2) (bodyK ⟨0, 28, impl_Meets_loops⟩ [1, 4, 6, 9, 10, 11, 15, 16, 17] []) (setEs (deads 28) [1, 4, 6, 9, 10, 11, 15, 16, 17] (impl_Meets_v2 x)) (impl_Meets_s2 x) = impl_Meets_b2 x (Sum.elim (fun y => some ⟨.norm, impl_Meets_v2 y, impl_Meets_s2 y⟩) fun z => some ⟨(impl_Meets_e2 z).1, (impl_Meets_e2 z).2.1, (impl_Meets_e2 z).2.2⟩) := by
  kernel_rfl

theorem impl_Meets_lo2 : ∀ sp, (impl_Meets_loops 2) = some sp → LoopOk G72 ⟨0, 28, impl_Meets_loops⟩ sp (loopBody Try.f115 2) := by
  intro sp hsp vals st k r h
  cases hsp
  dsimp only at h
  rcases onPats_inv2 h with ⟨p, q, rfl, rfl, h⟩ | h
  · exact loop_runs2 impl_Meets_bp2 impl_Meets_v2 impl_Meets_s2 impl_Meets_e2 (fun z => by rcases z with z | z <;> (intro h; cases h)) impl_Meets_bx2 Fuel (p.1, p.2.1, p.2.2.2.1, p.2.2.2.2.1, p.2.2.2.2.2.1, p.2.2.2.2.2.2.1, p.2.2.2.2.2.2.2.1, p.2.2.2.2.2.2.2.2.1, q.1.1, q.1.2.1, q.1.2.2.1) _ k r (fun z => by rcases z with z | z <;> rfl) h
  cases h

def impl_Meets_v0 : q21T → List AV := (fun x => [.lst tWrite x.1, .bool x.2.1, .lst tWrite x.2.2.1, .int .i64 x.2.2.2.1, .int .i64 x.2.2.2.2])
def impl_Meets_s0 : q21T → St := (fun x => [])
def impl_Meets_e0 : (q21T ⊕ q21T) → Out × List AV × St := (Sum.elim (fun z => ((.exit 0), [.lst tWrite z.1, .bool z.2.1, .lst tWrite z.2.2.1, .int .i64 z.2.2.2.1, .int .i64 z.2.2.2.2], [])) (fun z => (.ret, [.lst tWrite z.1, .bool z.2.1, .lst tWrite z.2.2.1, .int .i64 z.2.2.2.1, .int .i64 z.2.2.2.2], [])))

theorem impl_Meets_bx0 (x : q21T) : exec G72 ⟨0, 28, impl_Meets_loops⟩ (loopBody Try.f115 0) (bodyK ⟨0, 28, impl_Meets_loops⟩ [1, 4, 9, 10, 11] []) (setEs (deads 28) [1, 4, 9, 10, 11] (impl_Meets_v0 x)) (impl_Meets_s0 x) = impl_Meets_b0 x (Sum.elim (fun y => some ⟨.norm, impl_Meets_v0 y, impl_Meets_s0 y⟩) fun z => some ⟨(impl_Meets_e0 z).1, (impl_Meets_e0 z).2.1, (impl_Meets_e0 z).2.2⟩) := by
  kernel_rfl

theorem impl_Meets_lo0 : ∀ sp, (impl_Meets_loops 0) = some sp → LoopOk G72 ⟨0, 28, impl_Meets_loops⟩ sp (loopBody Try.f115 0) := by
  intro sp hsp vals st k r h
  cases hsp
  dsimp only at h
  rcases onPats_inv2 h with ⟨p, q, rfl, rfl, h⟩ | h
  · exact loop_runs2 impl_Meets_bp0 impl_Meets_v0 impl_Meets_s0 impl_Meets_e0 (fun z => by rcases z with z | z <;> (intro h; cases h)) impl_Meets_bx0 Fuel (p.1, p.2.1, p.2.2.1, p.2.2.2.1, p.2.2.2.2.1) _ k r (fun z => by rcases z with z | z <;> rfl) h
  cases h

theorem impl_Meets_y (a0 : (List dWrite)) (a1 : (List dWrite)) : execFn G72 impl_Meets_loops Try.f115 [.lst tWrite a0, .lst tWrite a1] [] = impl_Meets_k a0 a1 (fun (y : Bool) => some ⟨.ret, [.bool y], []⟩) := by rw [impl_Meets_e]; kernel_rfl

theorem impl_Meets_l : LoopsOk G72 ⟨0, 28, impl_Meets_loops⟩ (Try.f115.body.getD .skip) :=
  loopsOk_of (ids := [2, 0]) (by kernel_rfl) (by kernel_rfl) ⟨impl_Meets_lo2, ⟨impl_Meets_lo0, trivial⟩⟩

theorem impl_Meets_c : Contract Try.prog 115 impl_Meets_g := by
  refine told G72_ok follows Try.func115 (c := Try.f115.body.getD .skip) (by kernel_rfl) ?_
  intro args s k r hk
  unfold impl_Meets_g at hk
  rcases onPats_inv hk with ⟨p, q, rfl, rfl⟩ | hk
  · exact ⟨impl_Meets_loops, impl_Meets_q p.1 p.2.1, impl_Meets_y p.1 p.2.1, impl_Meets_l⟩
  cases hk

def G73 : Glob := G72.add 115 impl_Meets_g

theorem G73_ok : GlobOk Try.prog G73 := G72_ok.add ⟨Try.f115, Try.func115, by kernel_rfl, by kernel_rfl⟩ impl_Meets_c



def impl_Blocked_1_loops : Nat → Option LoopSpec
  | _ => none

theorem impl_Blocked_1_y (a0 : Int) (a1 : Int) (a2 : Int) (a3 : Int) (a4 : (List dRange)) (a5 : (List dWrite)) (a6 : Bool) (a7 : ByteArray) (a8 : Int) (a9 : Int) (a10 : Int) (a11 : Int) (a12 : (List dRange)) (a13 : (List dWrite)) (a14 : Bool) (a15 : ByteArray) : execFn G73 impl_Blocked_1_loops Try.f114 [.agg [.int .i64 a0, .int .i64 a1, .int .i64 a2, .int .i64 a3, .lst tRange a4, .lst tWrite a5, .bool a6, .str a7], .bp 0 0] [.box [.int .i64 a8, .int .i64 a9, .int .i64 a10, .int .i64 a11, .lst tRange a12, .lst tWrite a13, .bool a14, .str a15]] = impl_Blocked_1_k (a0, (a1, (a2, (a3, (a4, (a5, (a6, a7))))))) a8 a9 a10 a11 a12 a13 a14 a15 (fun (y : q29T) => some ⟨.ret, [.bool y.1], [.box [.int .i64 y.2.1, .int .i64 y.2.2.1, .int .i64 y.2.2.2.1, .int .i64 y.2.2.2.2.1, .lst tRange y.2.2.2.2.2.1, .lst tWrite y.2.2.2.2.2.2.1, .bool y.2.2.2.2.2.2.2.1, .str y.2.2.2.2.2.2.2.2]]⟩) := by rw [impl_Blocked_1_e]; kernel_rfl

theorem impl_Blocked_1_l : LoopsOk G73 ⟨1, 31, impl_Blocked_1_loops⟩ (Try.f114.body.getD .skip) :=
  loopsOk_of (ids := []) (by kernel_rfl) (by kernel_rfl) trivial

theorem impl_Blocked_1_c : Contract Try.prog 114 impl_Blocked_1_g := by
  refine told G73_ok follows Try.func114 (c := Try.f114.body.getD .skip) (by kernel_rfl) ?_
  intro args s k r hk
  unfold impl_Blocked_1_g at hk
  rcases onPats_inv hk with ⟨p, q, rfl, rfl⟩ | hk
  · exact ⟨impl_Blocked_1_loops, impl_Blocked_1_q p.1.1 p.1.2.1 p.1.2.2.1 p.1.2.2.2.1 p.1.2.2.2.2.1 p.1.2.2.2.2.2.1 p.1.2.2.2.2.2.2.1 p.1.2.2.2.2.2.2.2.1 q.1.1 q.1.2.1 q.1.2.2.1 q.1.2.2.2.1 q.1.2.2.2.2.1 q.1.2.2.2.2.2.1 q.1.2.2.2.2.2.2.1 q.1.2.2.2.2.2.2.2.1, impl_Blocked_1_y p.1.1 p.1.2.1 p.1.2.2.1 p.1.2.2.2.1 p.1.2.2.2.2.1 p.1.2.2.2.2.2.1 p.1.2.2.2.2.2.2.1 p.1.2.2.2.2.2.2.2.1 q.1.1 q.1.2.1 q.1.2.2.1 q.1.2.2.2.1 q.1.2.2.2.2.1 q.1.2.2.2.2.2.1 q.1.2.2.2.2.2.2.1 q.1.2.2.2.2.2.2.2.1, impl_Blocked_1_l⟩
  cases hk

def G74 : Glob := G73.add 114 impl_Blocked_1_g

theorem G74_ok : GlobOk Try.prog G74 := G73_ok.add ⟨Try.f114, Try.func114, by kernel_rfl, by kernel_rfl⟩ impl_Blocked_1_c



def slices_IndexFunc_Txn_Blocked_1_loops : Nat → Option LoopSpec
  | 0 => some ⟨[0, 1, 4, 7, 8], [], fun vals st k => onPats [.lst tTxn, .fn 114 [.bp 0 0], .int .i64, .int .i64, .int .i64] [.box [.int .i64, .int .i64, .int .i64, .int .i64, .lst tRange, .lst tWrite, .bool, .str]] vals st (fun p q => loopK slices_IndexFunc_Txn_Blocked_1_b0 Fuel (p.1, p.2.2.1, p.2.2.2.1, p.2.2.2.2.1, q.1.1, q.1.2.1, q.1.2.2.1, q.1.2.2.2.1, q.1.2.2.2.2.1, q.1.2.2.2.2.2.1, q.1.2.2.2.2.2.2.1, q.1.2.2.2.2.2.2.2.1) (Sum.elim (fun z => k .ret [.lst tTxn z.1, .fn 114 [.bp 0 0], .int .i64 z.2.1, .int .i64 z.2.2.1, .int .i64 z.2.2.2.1] [.box [.int .i64 z.2.2.2.2.1, .int .i64 z.2.2.2.2.2.1, .int .i64 z.2.2.2.2.2.2.1, .int .i64 z.2.2.2.2.2.2.2.1, .lst tRange z.2.2.2.2.2.2.2.2.1, .lst tWrite z.2.2.2.2.2.2.2.2.2.1, .bool z.2.2.2.2.2.2.2.2.2.2.1, .str z.2.2.2.2.2.2.2.2.2.2.2]]) (fun z => k (.exit 0) [.lst tTxn z.1, .fn 114 [.bp 0 0], .int .i64 z.2.1, .int .i64 z.2.2.1, .int .i64 z.2.2.2.1] [.box [.int .i64 z.2.2.2.2.1, .int .i64 z.2.2.2.2.2.1, .int .i64 z.2.2.2.2.2.2.1, .int .i64 z.2.2.2.2.2.2.2.1, .lst tRange z.2.2.2.2.2.2.2.2.1, .lst tWrite z.2.2.2.2.2.2.2.2.2.1, .bool z.2.2.2.2.2.2.2.2.2.2.1, .str z.2.2.2.2.2.2.2.2.2.2.2]])))
      (none)⟩
  | _ => none

def slices_IndexFunc_Txn_Blocked_1_v0 : q15T → List AV := (fun x => [.lst tTxn x.1, .fn 114 [.bp 0 0], .int .i64 x.2.1, .int .i64 x.2.2.1, .int .i64 x.2.2.2.1])
def slices_IndexFunc_Txn_Blocked_1_s0 : q15T → St := (fun x => [.box [.int .i64 x.2.2.2.2.1, .int .i64 x.2.2.2.2.2.1, .int .i64 x.2.2.2.2.2.2.1, .int .i64 x.2.2.2.2.2.2.2.1, .lst tRange x.2.2.2.2.2.2.2.2.1, .lst tWrite x.2.2.2.2.2.2.2.2.2.1, .bool x.2.2.2.2.2.2.2.2.2.2.1, .str x.2.2.2.2.2.2.2.2.2.2.2]])
def slices_IndexFunc_Txn_Blocked_1_e0 : (q15T ⊕ q15T) → Out × List AV × St := (Sum.elim (fun z => (.ret, [.lst tTxn z.1, .fn 114 [.bp 0 0], .int .i64 z.2.1, .int .i64 z.2.2.1, .int .i64 z.2.2.2.1], [.box [.int .i64 z.2.2.2.2.1, .int .i64 z.2.2.2.2.2.1, .int .i64 z.2.2.2.2.2.2.1, .int .i64 z.2.2.2.2.2.2.2.1, .lst tRange z.2.2.2.2.2.2.2.2.1, .lst tWrite z.2.2.2.2.2.2.2.2.2.1, .bool z.2.2.2.2.2.2.2.2.2.2.1, .str z.2.2.2.2.2.2.2.2.2.2.2]])) (fun z => ((.exit 0), [.lst tTxn z.1, .fn 114 [.bp 0 0], .int .i64 z.2.1, .int .i64 z.2.2.1, .int .i64 z.2.2.2.1], [.box [.int .i64 z.2.2.2.2.1, .int .i64 z.2.2.2.2.2.1, .int .i64 z.2.2.2.2.2.2.1, .int .i64 z.2.2.2.2.2.2.2.1, .lst tRange z.2.2.2.2.2.2.2.2.1, .lst tWrite z.2.2.2.2.2.2.2.2.2.1, .bool z.2.2.2.2.2.2.2.2.2.2.1, .str z.2.2.2.2.2.2.2.2.2.2.2]])))

theorem slices_IndexFunc_Txn_Blocked_1_bx0 (x : q15T) : exec G74 ⟨1, 19, slices_IndexFunc_Txn_Blocked_1_loops⟩ (loopBody Try.f81 0) (bodyK ⟨1, 19, slices_IndexFunc_Txn_Blocked_1_loops⟩ [0, 1, 4, 7, 8] []) (setEs (deads 19) [0, 1, 4, 7, 8] (slices_IndexFunc_Txn_Blocked_1_v0 x)) (slices_IndexFunc_Txn_Blocked_1_s0 x) = slices_IndexFunc_Txn_Blocked_1_b0 x (Sum.elim (fun y => some ⟨.norm, slices_IndexFunc_Txn_Blocked_1_v0 y, slices_IndexFunc_Txn_Blocked_1_s0 y⟩) fun z => some ⟨(slices_IndexFunc_Txn_Blocked_1_e0 z).1, (slices_IndexFunc_Txn_Blocked_1_e0 z).2.1, (slices_IndexFunc_Txn_Blocked_1_e0 z).2.2⟩) := by
  kernel_rfl

theorem slices_IndexFunc_Txn_Blocked_1_lo0 : ∀ sp, (slices_IndexFunc_Txn_Blocked_1_loops 0) = some sp → LoopOk G74 ⟨1, 19, slices_IndexFunc_Txn_Blocked_1_loops⟩ sp (loopBody Try.f81 0) := by
  intro sp hsp vals st k r h
  cases hsp
  dsimp only at h
  rcases onPats_inv2 h with ⟨p, q, rfl, rfl, h⟩ | h
  · exact loop_runs2 slices_IndexFunc_Txn_Blocked_1_bp0 slices_IndexFunc_Txn_Blocked_1_v0 slices_IndexFunc_Txn_Blocked_1_s0 slices_IndexFunc_Txn_Blocked_1_e0 (fun z => by rcases z with z | z <;> (intro h; cases h)) slices_IndexFunc_Txn_Blocked_1_bx0 Fuel (p.1, p.2.2.1, p.2.2.2.1, p.2.2.2.2.1, q.1.1, q.1.2.1, q.1.2.2.1, q.1.2.2.2.1, q.1.2.2.2.2.1, q.1.2.2.2.2.2.1, q.1.2.2.2.2.2.2.1, q.1.2.2.2.2.2.2.2.1) _ k r (fun z => by rcases z with z | z <;> rfl) h
  cases h

theorem slices_IndexFunc_Txn_Blocked_1_y (a0 : (List dTxn)) (a1 : Int) (a2 : Int) (a3 : Int) (a4 : Int) (a5 : (List dRange)) (a6 : (List dWrite)) (a7 : Bool) (a8 : ByteArray) : execFn G74 slices_IndexFunc_Txn_Blocked_1_loops Try.f81 [.lst tTxn a0, .fn 114 [.bp 0 0]] [.box [.int .i64 a1, .int .i64 a2, .int .i64 a3, .int .i64 a4, .lst tRange a5, .lst tWrite a6, .bool a7, .str a8]] = slices_IndexFunc_Txn_Blocked_1_k a0 a1 a2 a3 a4 a5 a6 a7 a8 (fun (y : q42T) => some ⟨.ret, [.int .i64 y.1], [.box [.int .i64 y.2.1, .int .i64 y.2.2.1, .int .i64 y.2.2.2.1, .int .i64 y.2.2.2.2.1, .lst tRange y.2.2.2.2.2.1, .lst tWrite y.2.2.2.2.2.2.1, .bool y.2.2.2.2.2.2.2.1, .str y.2.2.2.2.2.2.2.2]]⟩) := by rw [slices_IndexFunc_Txn_Blocked_1_e]; kernel_rfl

theorem slices_IndexFunc_Txn_Blocked_1_l : LoopsOk G74 ⟨1, 19, slices_IndexFunc_Txn_Blocked_1_loops⟩ (Try.f81.body.getD .skip) :=
  loopsOk_of (ids := [0]) (by kernel_rfl) (by kernel_rfl) ⟨slices_IndexFunc_Txn_Blocked_1_lo0, trivial⟩

theorem slices_IndexFunc_Txn_c9 : Contract Try.prog 81 slices_IndexFunc_Txn_g9 := by
  refine told2 G74_ok follows Try.func81 (c := Try.f81.body.getD .skip) (by kernel_rfl) slices_IndexFunc_Txn_c8 ?_
  intro args s k r hk
  unfold slices_IndexFunc_Txn_g9 at hk
  rcases onPats_inv hk with ⟨p, q, rfl, rfl⟩ | hk
  · exact .inl ⟨slices_IndexFunc_Txn_Blocked_1_loops, slices_IndexFunc_Txn_Blocked_1_q p.1 q.1.1 q.1.2.1 q.1.2.2.1 q.1.2.2.2.1 q.1.2.2.2.2.1 q.1.2.2.2.2.2.1 q.1.2.2.2.2.2.2.1 q.1.2.2.2.2.2.2.2.1, slices_IndexFunc_Txn_Blocked_1_y p.1 q.1.1 q.1.2.1 q.1.2.2.1 q.1.2.2.2.1 q.1.2.2.2.2.1 q.1.2.2.2.2.2.1 q.1.2.2.2.2.2.2.1 q.1.2.2.2.2.2.2.2.1, slices_IndexFunc_Txn_Blocked_1_l⟩
  exact .inr hk

def G75 : Glob := G74.add 81 slices_IndexFunc_Txn_g9

theorem G75_ok : GlobOk Try.prog G75 := G74_ok.add ⟨Try.f81, Try.func81, by kernel_rfl, by kernel_rfl⟩ slices_IndexFunc_Txn_c9



def slices_ContainsFunc_Txn_Blocked_1_loops : Nat → Option LoopSpec
  | _ => none

theorem slices_ContainsFunc_Txn_Blocked_1_y (a0 : (List dTxn)) (a1 : Int) (a2 : Int) (a3 : Int) (a4 : Int) (a5 : (List dRange)) (a6 : (List dWrite)) (a7 : Bool) (a8 : ByteArray) : execFn G75 slices_ContainsFunc_Txn_Blocked_1_loops Try.f178 [.lst tTxn a0, .fn 114 [.bp 0 0]] [.box [.int .i64 a1, .int .i64 a2, .int .i64 a3, .int .i64 a4, .lst tRange a5, .lst tWrite a6, .bool a7, .str a8]] = slices_ContainsFunc_Txn_Blocked_1_k a0 a1 a2 a3 a4 a5 a6 a7 a8 (fun (y : q29T) => some ⟨.ret, [.bool y.1], [.box [.int .i64 y.2.1, .int .i64 y.2.2.1, .int .i64 y.2.2.2.1, .int .i64 y.2.2.2.2.1, .lst tRange y.2.2.2.2.2.1, .lst tWrite y.2.2.2.2.2.2.1, .bool y.2.2.2.2.2.2.2.1, .str y.2.2.2.2.2.2.2.2]]⟩) := by rw [slices_ContainsFunc_Txn_Blocked_1_e]; kernel_rfl

theorem slices_ContainsFunc_Txn_Blocked_1_l : LoopsOk G75 ⟨1, 9, slices_ContainsFunc_Txn_Blocked_1_loops⟩ (Try.f178.body.getD .skip) :=
  loopsOk_of (ids := []) (by kernel_rfl) (by kernel_rfl) trivial

theorem slices_ContainsFunc_Txn_c9 : Contract Try.prog 178 slices_ContainsFunc_Txn_g9 := by
  refine told2 G75_ok follows Try.func178 (c := Try.f178.body.getD .skip) (by kernel_rfl) slices_ContainsFunc_Txn_c8 ?_
  intro args s k r hk
  unfold slices_ContainsFunc_Txn_g9 at hk
  rcases onPats_inv hk with ⟨p, q, rfl, rfl⟩ | hk
  · exact .inl ⟨slices_ContainsFunc_Txn_Blocked_1_loops, slices_ContainsFunc_Txn_Blocked_1_q p.1 q.1.1 q.1.2.1 q.1.2.2.1 q.1.2.2.2.1 q.1.2.2.2.2.1 q.1.2.2.2.2.2.1 q.1.2.2.2.2.2.2.1 q.1.2.2.2.2.2.2.2.1, slices_ContainsFunc_Txn_Blocked_1_y p.1 q.1.1 q.1.2.1 q.1.2.2.1 q.1.2.2.2.1 q.1.2.2.2.2.1 q.1.2.2.2.2.2.1 q.1.2.2.2.2.2.2.1 q.1.2.2.2.2.2.2.2.1, slices_ContainsFunc_Txn_Blocked_1_l⟩
  exact .inr hk

def G76 : Glob := G75.add 178 slices_ContainsFunc_Txn_g9

theorem G76_ok : GlobOk Try.prog G76 := G75_ok.add ⟨Try.f178, Try.func178, by kernel_rfl, by kernel_rfl⟩ slices_ContainsFunc_Txn_c9



def impl_some_Blocked_1_loops : Nat → Option LoopSpec
  | _ => none

theorem impl_some_Blocked_1_y (a0 : (List dTxn)) (a1 : Int) (a2 : Int) (a3 : Int) (a4 : Int) (a5 : (List dRange)) (a6 : (List dWrite)) (a7 : Bool) (a8 : ByteArray) : execFn G76 impl_some_Blocked_1_loops Try.f100 [.lst tTxn a0, .fn 114 [.bp 0 0]] [.box [.int .i64 a1, .int .i64 a2, .int .i64 a3, .int .i64 a4, .lst tRange a5, .lst tWrite a6, .bool a7, .str a8]] = impl_some_Blocked_1_k a0 a1 a2 a3 a4 a5 a6 a7 a8 (fun (y : q29T) => some ⟨.ret, [.bool y.1], [.box [.int .i64 y.2.1, .int .i64 y.2.2.1, .int .i64 y.2.2.2.1, .int .i64 y.2.2.2.2.1, .lst tRange y.2.2.2.2.2.1, .lst tWrite y.2.2.2.2.2.2.1, .bool y.2.2.2.2.2.2.2.1, .str y.2.2.2.2.2.2.2.2]]⟩) := by rw [impl_some_Blocked_1_e]; kernel_rfl

theorem impl_some_Blocked_1_l : LoopsOk G76 ⟨1, 8, impl_some_Blocked_1_loops⟩ (Try.f100.body.getD .skip) :=
  loopsOk_of (ids := []) (by kernel_rfl) (by kernel_rfl) trivial

theorem impl_some_c9 : Contract Try.prog 100 impl_some_g9 := by
  refine told2 G76_ok follows Try.func100 (c := Try.f100.body.getD .skip) (by kernel_rfl) impl_some_c8 ?_
  intro args s k r hk
  unfold impl_some_g9 at hk
  rcases onPats_inv hk with ⟨p, q, rfl, rfl⟩ | hk
  · exact .inl ⟨impl_some_Blocked_1_loops, impl_some_Blocked_1_q p.1 q.1.1 q.1.2.1 q.1.2.2.1 q.1.2.2.2.1 q.1.2.2.2.2.1 q.1.2.2.2.2.2.1 q.1.2.2.2.2.2.2.1 q.1.2.2.2.2.2.2.2.1, impl_some_Blocked_1_y p.1 q.1.1 q.1.2.1 q.1.2.2.1 q.1.2.2.2.1 q.1.2.2.2.2.1 q.1.2.2.2.2.2.1 q.1.2.2.2.2.2.2.1 q.1.2.2.2.2.2.2.2.1, impl_some_Blocked_1_l⟩
  exact .inr hk

def G77 : Glob := G76.add 100 impl_some_g9

theorem G77_ok : GlobOk Try.prog G77 := G76_ok.add ⟨Try.f100, Try.func100, by kernel_rfl, by kernel_rfl⟩ impl_some_c9



def impl_Blocked_loops : Nat → Option LoopSpec
  | _ => none

theorem impl_Blocked_y (a0 : Int) (a1 : Int) (a2 : Int) (a3 : Int) (a4 : (List dRange)) (a5 : (List dWrite)) (a6 : Bool) (a7 : ByteArray) (a8 : (List dTxn)) : execFn G77 impl_Blocked_loops Try.f34 [.agg [.int .i64 a0, .int .i64 a1, .int .i64 a2, .int .i64 a3, .lst tRange a4, .lst tWrite a5, .bool a6, .str a7], .lst tTxn a8] [] = impl_Blocked_k (a0, (a1, (a2, (a3, (a4, (a5, (a6, a7))))))) a8 (fun (y : Bool) => some ⟨.ret, [.bool y], []⟩) := by rw [impl_Blocked_e]; kernel_rfl

theorem impl_Blocked_l : LoopsOk G77 ⟨0, 8, impl_Blocked_loops⟩ (Try.f34.body.getD .skip) :=
  loopsOk_of (ids := []) (by kernel_rfl) (by kernel_rfl) trivial

theorem impl_Blocked_c : Contract Try.prog 34 impl_Blocked_g := by
  refine told G77_ok follows Try.func34 (c := Try.f34.body.getD .skip) (by kernel_rfl) ?_
  intro args s k r hk
  unfold impl_Blocked_g at hk
  rcases onPats_inv hk with ⟨p, q, rfl, rfl⟩ | hk
  · exact ⟨impl_Blocked_loops, impl_Blocked_q p.1.1 p.1.2.1 p.1.2.2.1 p.1.2.2.2.1 p.1.2.2.2.2.1 p.1.2.2.2.2.2.1 p.1.2.2.2.2.2.2.1 p.1.2.2.2.2.2.2.2.1 p.2.1, impl_Blocked_y p.1.1 p.1.2.1 p.1.2.2.1 p.1.2.2.2.1 p.1.2.2.2.2.1 p.1.2.2.2.2.2.1 p.1.2.2.2.2.2.2.1 p.1.2.2.2.2.2.2.2.1 p.2.1, impl_Blocked_l⟩
  cases hk

def G78 : Glob := G77.add 34 impl_Blocked_g

theorem G78_ok : GlobOk Try.prog G78 := G77_ok.add ⟨Try.f34, Try.func34, by kernel_rfl, by kernel_rfl⟩ impl_Blocked_c



def spec_Meets_loops : Nat → Option LoopSpec
  | 2 => some ⟨[0, 1, 4, 5, 6], [], fun vals st k => onPats [.lst tWrite, .lst tWrite, .bool, .int .i64, .int .i64] [] vals st (fun p q => loopK spec_Meets_b2 Fuel (p.1, p.2.1, p.2.2.1, p.2.2.2.1, p.2.2.2.2.1) (Sum.elim (fun z => k .ret [.lst tWrite z.1, .lst tWrite z.2.1, .bool z.2.2.1, .int .i64 z.2.2.2.1, .int .i64 z.2.2.2.2] []) (fun z => k (.exit 2) [.lst tWrite z.1, .lst tWrite z.2.1, .bool z.2.2.1, .int .i64 z.2.2.2.1, .int .i64 z.2.2.2.2] [])))
      (none)⟩
  | 0 => some ⟨[0, 1, 4, 5], [], fun vals st k => onPats [.lst tWrite, .lst tWrite, .bool, .int .i64] [] vals st (fun p q => loopK spec_Meets_b0 Fuel (p.1, p.2.1, p.2.2.1, p.2.2.2.1) (Sum.elim (fun z => k (.exit 0) [.lst tWrite z.1, .lst tWrite z.2.1, .bool z.2.2.1, .int .i64 z.2.2.2] []) (fun z => k .ret [.lst tWrite z.1, .lst tWrite z.2.1, .bool z.2.2.1, .int .i64 z.2.2.2] [])))
      (none)⟩
  | 2000007 => some ⟨[0, 2, 4, 6, 8, 10, 12, 14, 16, 18, 20], [], fun _ _ _ => none⟩
  | _ => none

def spec_Meets_v2 : q16T → List AV := (fun x => [.lst tWrite x.1, .lst tWrite x.2.1, .bool x.2.2.1, .int .i64 x.2.2.2.1, .int .i64 x.2.2.2.2])
def spec_Meets_s2 : q16T → St := (fun x => [])
def spec_Meets_e2 : (q16T ⊕ q16T) → Out × List AV × St := (Sum.elim (fun z => (.ret, [.lst tWrite z.1, .lst tWrite z.2.1, .bool z.2.2.1, .int .i64 z.2.2.2.1, .int .i64 z.2.2.2.2], [])) (fun z => ((.exit 2), [.lst tWrite z.1, .lst tWrite z.2.1, .bool z.2.2.1, .int .i64 z.2.2.2.1, .int .i64 z.2.2.2.2], [])))

theorem spec_Meets_bx2 (x : q16T) : exec G78 ⟨0, 30, spec_Meets_loops⟩ (loopBody Try.f116 2) (bodyK ⟨0, 30, spec_Meets_loops⟩ [0, 1, 4, 5, 6] []) (setEs (deads 30) [0, 1, 4, 5, 6] (spec_Meets_v2 x)) (spec_Meets_s2 x) = spec_Meets_b2 x (Sum.elim (fun y => some ⟨.norm, spec_Meets_v2 y, spec_Meets_s2 y⟩) fun z => some ⟨(spec_Meets_e2 z).1, (spec_Meets_e2 z).2.1, (spec_Meets_e2 z).2.2⟩) := by
  kernel_rfl

theorem spec_Meets_lo2 : ∀ sp, (spec_Meets_loops 2) = some sp → LoopOk G78 ⟨0, 30, spec_Meets_loops⟩ sp (loopBody Try.f116 2) := by
  intro sp hsp vals st k r h
  cases hsp
  dsimp only at h
  rcases onPats_inv2 h with ⟨p, q, rfl, rfl, h⟩ | h
  · exact loop_runs2 spec_Meets_bp2 spec_Meets_v2 spec_Meets_s2 spec_Meets_e2 (fun z => by rcases z with z | z <;> (intro h; cases h)) spec_Meets_bx2 Fuel (p.1, p.2.1, p.2.2.1, p.2.2.2.1, p.2.2.2.2.1) _ k r (fun z => by rcases z with z | z <;> rfl) h
  cases h

def spec_Meets_v0 : q17T → List AV := (fun x => [.lst tWrite x.1, .lst tWrite x.2.1, .bool x.2.2.1, .int .i64 x.2.2.2])
def spec_Meets_s0 : q17T → St := (fun x => [])
def spec_Meets_e0 : (q17T ⊕ q17T) → Out × List AV × St := (Sum.elim (fun z => ((.exit 0), [.lst tWrite z.1, .lst tWrite z.2.1, .bool z.2.2.1, .int .i64 z.2.2.2], [])) (fun z => (.ret, [.lst tWrite z.1, .lst tWrite z.2.1, .bool z.2.2.1, .int .i64 z.2.2.2], [])))

theorem spec_Meets_bx0 (x : q17T) : exec G78 ⟨0, 30, spec_Meets_loops⟩ (loopBody Try.f116 0) (bodyK ⟨0, 30, spec_Meets_loops⟩ [0, 1, 4, 5] []) (setEs (deads 30) [0, 1, 4, 5] (spec_Meets_v0 x)) (spec_Meets_s0 x) = spec_Meets_b0 x (Sum.elim (fun y => some ⟨.norm, spec_Meets_v0 y, spec_Meets_s0 y⟩) fun z => some ⟨(spec_Meets_e0 z).1, (spec_Meets_e0 z).2.1, (spec_Meets_e0 z).2.2⟩) := by
  kernel_rfl

theorem spec_Meets_lo0 : ∀ sp, (spec_Meets_loops 0) = some sp → LoopOk G78 ⟨0, 30, spec_Meets_loops⟩ sp (loopBody Try.f116 0) := by
  intro sp hsp vals st k r h
  cases hsp
  dsimp only at h
  rcases onPats_inv2 h with ⟨p, q, rfl, rfl, h⟩ | h
  · exact loop_runs2 spec_Meets_bp0 spec_Meets_v0 spec_Meets_s0 spec_Meets_e0 (fun z => by rcases z with z | z <;> (intro h; cases h)) spec_Meets_bx0 Fuel (p.1, p.2.1, p.2.2.1, p.2.2.2.1) _ k r (fun z => by rcases z with z | z <;> rfl) h
  cases h

theorem spec_Meets_y (a0 : (List dWrite)) (a1 : (List dWrite)) : execFn G78 spec_Meets_loops Try.f116 [.lst tWrite a0, .lst tWrite a1] [] = spec_Meets_k a0 a1 (fun (y : Bool) => some ⟨.ret, [.bool y], []⟩) := by rw [spec_Meets_e]; kernel_rfl

theorem spec_Meets_l : LoopsOk G78 ⟨0, 30, spec_Meets_loops⟩ (Try.f116.body.getD .skip) :=
  loopsOk_of (ids := [2, 0]) (by kernel_rfl) (by kernel_rfl) ⟨spec_Meets_lo2, ⟨spec_Meets_lo0, trivial⟩⟩

theorem spec_Meets_c : Contract Try.prog 116 spec_Meets_g := by
  refine told G78_ok follows Try.func116 (c := Try.f116.body.getD .skip) (by kernel_rfl) ?_
  intro args s k r hk
  unfold spec_Meets_g at hk
  rcases onPats_inv hk with ⟨p, q, rfl, rfl⟩ | hk
  · exact ⟨spec_Meets_loops, spec_Meets_q p.1 p.2.1, spec_Meets_y p.1 p.2.1, spec_Meets_l⟩
  cases hk

def G79 : Glob := G78.add 116 spec_Meets_g

theorem G79_ok : GlobOk Try.prog G79 := G78_ok.add ⟨Try.f116, Try.func116, by kernel_rfl, by kernel_rfl⟩ spec_Meets_c



def spec_Blocked_loops : Nat → Option LoopSpec
  | 0 => some ⟨[1, 2, 4, 5], [], fun vals st k => onPats [.lst tTxn, .bp 0 0, .bool, .int .i64] [.box [.int .i64, .int .i64, .int .i64, .int .i64, .lst tRange, .lst tWrite, .bool, .str]] vals st (fun p q => loopK spec_Blocked_b0 Fuel (p.1, p.2.2.1, p.2.2.2.1, q.1.1, q.1.2.1, q.1.2.2.1, q.1.2.2.2.1, q.1.2.2.2.2.1, q.1.2.2.2.2.2.1, q.1.2.2.2.2.2.2.1, q.1.2.2.2.2.2.2.2.1) (Sum.elim (fun z => k .ret [.lst tTxn z.1, .bp 0 0, .bool z.2.1, .int .i64 z.2.2.1] [.box [.int .i64 z.2.2.2.1, .int .i64 z.2.2.2.2.1, .int .i64 z.2.2.2.2.2.1, .int .i64 z.2.2.2.2.2.2.1, .lst tRange z.2.2.2.2.2.2.2.1, .lst tWrite z.2.2.2.2.2.2.2.2.1, .bool z.2.2.2.2.2.2.2.2.2.1, .str z.2.2.2.2.2.2.2.2.2.2]]) (fun z => k (.exit 0) [.lst tTxn z.1, .bp 0 0, .bool z.2.1, .int .i64 z.2.2.1] [.box [.int .i64 z.2.2.2.1, .int .i64 z.2.2.2.2.1, .int .i64 z.2.2.2.2.2.1, .int .i64 z.2.2.2.2.2.2.1, .lst tRange z.2.2.2.2.2.2.2.1, .lst tWrite z.2.2.2.2.2.2.2.2.1, .bool z.2.2.2.2.2.2.2.2.2.1, .str z.2.2.2.2.2.2.2.2.2.2]])))
      (none)⟩
  | _ => none

def spec_Blocked_v0 : q10T → List AV := (fun x => [.lst tTxn x.1, .bp 0 0, .bool x.2.1, .int .i64 x.2.2.1])
def spec_Blocked_s0 : q10T → St := (fun x => [.box [.int .i64 x.2.2.2.1, .int .i64 x.2.2.2.2.1, .int .i64 x.2.2.2.2.2.1, .int .i64 x.2.2.2.2.2.2.1, .lst tRange x.2.2.2.2.2.2.2.1, .lst tWrite x.2.2.2.2.2.2.2.2.1, .bool x.2.2.2.2.2.2.2.2.2.1, .str x.2.2.2.2.2.2.2.2.2.2]])
def spec_Blocked_e0 : (q10T ⊕ q10T) → Out × List AV × St := (Sum.elim (fun z => (.ret, [.lst tTxn z.1, .bp 0 0, .bool z.2.1, .int .i64 z.2.2.1], [.box [.int .i64 z.2.2.2.1, .int .i64 z.2.2.2.2.1, .int .i64 z.2.2.2.2.2.1, .int .i64 z.2.2.2.2.2.2.1, .lst tRange z.2.2.2.2.2.2.2.1, .lst tWrite z.2.2.2.2.2.2.2.2.1, .bool z.2.2.2.2.2.2.2.2.2.1, .str z.2.2.2.2.2.2.2.2.2.2]])) (fun z => ((.exit 0), [.lst tTxn z.1, .bp 0 0, .bool z.2.1, .int .i64 z.2.2.1], [.box [.int .i64 z.2.2.2.1, .int .i64 z.2.2.2.2.1, .int .i64 z.2.2.2.2.2.1, .int .i64 z.2.2.2.2.2.2.1, .lst tRange z.2.2.2.2.2.2.2.1, .lst tWrite z.2.2.2.2.2.2.2.2.1, .bool z.2.2.2.2.2.2.2.2.2.1, .str z.2.2.2.2.2.2.2.2.2.2]])))

theorem spec_Blocked_bx0 (x : q10T) : exec G79 ⟨0, 46, spec_Blocked_loops⟩ (loopBody Try.f35 0) (bodyK ⟨0, 46, spec_Blocked_loops⟩ [1, 2, 4, 5] []) (setEs (deads 46) [1, 2, 4, 5] (spec_Blocked_v0 x)) (spec_Blocked_s0 x) = spec_Blocked_b0 x (Sum.elim (fun y => some ⟨.norm, spec_Blocked_v0 y, spec_Blocked_s0 y⟩) fun z => some ⟨(spec_Blocked_e0 z).1, (spec_Blocked_e0 z).2.1, (spec_Blocked_e0 z).2.2⟩) := by
  kernel_rfl

theorem spec_Blocked_lo0 : ∀ sp, (spec_Blocked_loops 0) = some sp → LoopOk G79 ⟨0, 46, spec_Blocked_loops⟩ sp (loopBody Try.f35 0) := by
  intro sp hsp vals st k r h
  cases hsp
  dsimp only at h
  rcases onPats_inv2 h with ⟨p, q, rfl, rfl, h⟩ | h
  · exact loop_runs2 spec_Blocked_bp0 spec_Blocked_v0 spec_Blocked_s0 spec_Blocked_e0 (fun z => by rcases z with z | z <;> (intro h; cases h)) spec_Blocked_bx0 Fuel (p.1, p.2.2.1, p.2.2.2.1, q.1.1, q.1.2.1, q.1.2.2.1, q.1.2.2.2.1, q.1.2.2.2.2.1, q.1.2.2.2.2.2.1, q.1.2.2.2.2.2.2.1, q.1.2.2.2.2.2.2.2.1) _ k r (fun z => by rcases z with z | z <;> rfl) h
  cases h

theorem spec_Blocked_y (a0 : Int) (a1 : Int) (a2 : Int) (a3 : Int) (a4 : (List dRange)) (a5 : (List dWrite)) (a6 : Bool) (a7 : ByteArray) (a8 : (List dTxn)) : execFn G79 spec_Blocked_loops Try.f35 [.agg [.int .i64 a0, .int .i64 a1, .int .i64 a2, .int .i64 a3, .lst tRange a4, .lst tWrite a5, .bool a6, .str a7], .lst tTxn a8] [] = spec_Blocked_k (a0, (a1, (a2, (a3, (a4, (a5, (a6, a7))))))) a8 (fun (y : Bool) => some ⟨.ret, [.bool y], []⟩) := by rw [spec_Blocked_e]; kernel_rfl

theorem spec_Blocked_l : LoopsOk G79 ⟨0, 46, spec_Blocked_loops⟩ (Try.f35.body.getD .skip) :=
  loopsOk_of (ids := [0]) (by kernel_rfl) (by kernel_rfl) ⟨spec_Blocked_lo0, trivial⟩

theorem spec_Blocked_c : Contract Try.prog 35 spec_Blocked_g := by
  refine told G79_ok follows Try.func35 (c := Try.f35.body.getD .skip) (by kernel_rfl) ?_
  intro args s k r hk
  unfold spec_Blocked_g at hk
  rcases onPats_inv hk with ⟨p, q, rfl, rfl⟩ | hk
  · exact ⟨spec_Blocked_loops, spec_Blocked_q p.1.1 p.1.2.1 p.1.2.2.1 p.1.2.2.2.1 p.1.2.2.2.2.1 p.1.2.2.2.2.2.1 p.1.2.2.2.2.2.2.1 p.1.2.2.2.2.2.2.2.1 p.2.1, spec_Blocked_y p.1.1 p.1.2.1 p.1.2.2.1 p.1.2.2.2.1 p.1.2.2.2.2.1 p.1.2.2.2.2.2.1 p.1.2.2.2.2.2.2.1 p.1.2.2.2.2.2.2.2.1 p.2.1, spec_Blocked_l⟩
  cases hk

def G80 : Glob := G79.add 35 spec_Blocked_g

theorem G80_ok : GlobOk Try.prog G80 := G79_ok.add ⟨Try.f35, Try.func35, by kernel_rfl, by kernel_rfl⟩ spec_Blocked_c



def laws_FnDangers_loops : Nat → Option LoopSpec
  | 0 => some ⟨[3, 4, 5, 6, 7, 8, 9, 10, 11, 12], [], fun vals st k => onPats [.bp 0 0, .own 1, .bool, .bool, .bp 2 0, .own 3, .bp 4 0, .bp 5 0, .bool, .int .i64] [.box [.int .i64, .int .i64, .int .i64, .int .i64, .own 6, .own 7, .bool, .str], .arr tTxn, .box [.int .i64, .int .i64, .int .i64, .int .i64, .own 8, .own 9, .bool, .str], .arr tTxn, .box [.int .i64, .int .i64, .int .i64, .int .i64, .own 10, .own 11, .bool, .str], .box [.int .i64, .int .i64, .int .i64, .int .i64, .own 12, .own 7, .bool, .str], .arr tRange, .arr tWrite, .arr tRange, .arr tWrite, .arr tRange, .arr tWrite, .arr tRange] vals st (fun p q => loopK laws_FnDangers_b0 Fuel (p.2.2.1, p.2.2.2.1, p.2.2.2.2.2.2.2.2.1, p.2.2.2.2.2.2.2.2.2.1, q.1.1, q.1.2.1, q.1.2.2.1, q.1.2.2.2.1, q.1.2.2.2.2.2.2.1, q.1.2.2.2.2.2.2.2.1, q.2.1, q.2.2.1.1, q.2.2.1.2.1, q.2.2.1.2.2.1, q.2.2.1.2.2.2.1, q.2.2.1.2.2.2.2.2.2.1, q.2.2.1.2.2.2.2.2.2.2.1, q.2.2.2.1, q.2.2.2.2.1.1, q.2.2.2.2.1.2.1, q.2.2.2.2.1.2.2.1, q.2.2.2.2.1.2.2.2.1, q.2.2.2.2.1.2.2.2.2.2.2.1, q.2.2.2.2.1.2.2.2.2.2.2.2.1, q.2.2.2.2.2.1.1, q.2.2.2.2.2.1.2.1, q.2.2.2.2.2.1.2.2.1, q.2.2.2.2.2.1.2.2.2.1, q.2.2.2.2.2.1.2.2.2.2.2.2.1, q.2.2.2.2.2.1.2.2.2.2.2.2.2.1, q.2.2.2.2.2.2.1, q.2.2.2.2.2.2.2.1, q.2.2.2.2.2.2.2.2.1, q.2.2.2.2.2.2.2.2.2.1, q.2.2.2.2.2.2.2.2.2.2.1, q.2.2.2.2.2.2.2.2.2.2.2.1, q.2.2.2.2.2.2.2.2.2.2.2.2.1) (fun z => k (.exit 0) [.bp 0 0, .own 1, .bool z.1, .bool z.2.1, .bp 2 0, .own 3, .bp 4 0, .bp 5 0, .bool z.2.2.1, .int .i64 z.2.2.2.1] [.box [.int .i64 z.2.2.2.2.1, .int .i64 z.2.2.2.2.2.1, .int .i64 z.2.2.2.2.2.2.1, .int .i64 z.2.2.2.2.2.2.2.1, .own 6, .own 7, .bool z.2.2.2.2.2.2.2.2.1, .str z.2.2.2.2.2.2.2.2.2.1], .arr tTxn z.2.2.2.2.2.2.2.2.2.2.1, .box [.int .i64 z.2.2.2.2.2.2.2.2.2.2.2.1, .int .i64 z.2.2.2.2.2.2.2.2.2.2.2.2.1, .int .i64 z.2.2.2.2.2.2.2.2.2.2.2.2.2.1, .int .i64 z.2.2.2.2.2.2.2.2.2.2.2.2.2.2.1, .own 8, .own 9, .bool z.2.2.2.2.2.2.2.2.2.2.2.2.2.2.2.1, .str z.2.2.2.2.2.2.2.2.2.2.2.2.2.2.2.2.1], .arr tTxn z.2.2.2.2.2.2.2.2.2.2.2.2.2.2.2.2.2.1, .box [.int .i64 z.2.2.2.2.2.2.2.2.2.2.2.2.2.2.2.2.2.2.1, .int .i64 z.2.2.2.2.2.2.2.2.2.2.2.2.2.2.2.2.2.2.2.1, .int .i64 z.2.2.2.2.2.2.2.2.2.2.2.2.2.2.2.2.2.2.2.2.1, .int .i64 z.2.2.2.2.2.2.2.2.2.2.2.2.2.2.2.2.2.2.2.2.2.1, .own 10, .own 11, .bool z.2.2.2.2.2.2.2.2.2.2.2.2.2.2.2.2.2.2.2.2.2.2.1, .str z.2.2.2.2.2.2.2.2.2.2.2.2.2.2.2.2.2.2.2.2.2.2.2.1], .box [.int .i64 z.2.2.2.2.2.2.2.2.2.2.2.2.2.2.2.2.2.2.2.2.2.2.2.2.1, .int .i64 z.2.2.2.2.2.2.2.2.2.2.2.2.2.2.2.2.2.2.2.2.2.2.2.2.2.1, .int .i64 z.2.2.2.2.2.2.2.2.2.2.2.2.2.2.2.2.2.2.2.2.2.2.2.2.2.2.1, .int .i64 z.2.2.2.2.2.2.2.2.2.2.2.2.2.2.2.2.2.2.2.2.2.2.2.2.2.2.2.1, .own 12, .own 7, .bool z.2.2.2.2.2.2.2.2.2.2.2.2.2.2.2.2.2.2.2.2.2.2.2.2.2.2.2.2.1, .str z.2.2.2.2.2.2.2.2.2.2.2.2.2.2.2.2.2.2.2.2.2.2.2.2.2.2.2.2.2.1], .arr tRange z.2.2.2.2.2.2.2.2.2.2.2.2.2.2.2.2.2.2.2.2.2.2.2.2.2.2.2.2.2.2.1, .arr tWrite z.2.2.2.2.2.2.2.2.2.2.2.2.2.2.2.2.2.2.2.2.2.2.2.2.2.2.2.2.2.2.2.1, .arr tRange z.2.2.2.2.2.2.2.2.2.2.2.2.2.2.2.2.2.2.2.2.2.2.2.2.2.2.2.2.2.2.2.2.1, .arr tWrite z.2.2.2.2.2.2.2.2.2.2.2.2.2.2.2.2.2.2.2.2.2.2.2.2.2.2.2.2.2.2.2.2.2.1, .arr tRange z.2.2.2.2.2.2.2.2.2.2.2.2.2.2.2.2.2.2.2.2.2.2.2.2.2.2.2.2.2.2.2.2.2.2.1, .arr tWrite z.2.2.2.2.2.2.2.2.2.2.2.2.2.2.2.2.2.2.2.2.2.2.2.2.2.2.2.2.2.2.2.2.2.2.2.1, .arr tRange z.2.2.2.2.2.2.2.2.2.2.2.2.2.2.2.2.2.2.2.2.2.2.2.2.2.2.2.2.2.2.2.2.2.2.2.2]))
      (none)⟩
  | 2000017 => some ⟨[0, 2, 6, 8, 5, 11, 12, 14, 16, 18, 22, 24, 21, 27, 28, 30, 32, 34, 36, 40, 42, 39, 45, 46, 48, 50, 52, 54, 56, 58, 60, 62, 64, 66, 69, 70, 72, 74, 76, 78, 81, 82, 84, 86, 88, 90, 93, 94, 96, 98, 100, 102, 104, 106, 109, 110, 112, 114, 116, 118, 120, 124, 126, 123, 129, 130, 132, 134, 136, 138, 142, 144, 141, 147, 148, 150, 152, 154, 156, 159, 160, 162, 164, 167, 168, 170, 172, 174], [], fun _ _ _ => none⟩
  | _ => none

def laws_FnDangers_v0 : q25T → List AV := (fun x => [.bp 0 0, .own 1, .bool x.1, .bool x.2.1, .bp 2 0, .own 3, .bp 4 0, .bp 5 0, .bool x.2.2.1, .int .i64 x.2.2.2.1])
def laws_FnDangers_s0 : q25T → St := (fun x => [.box [.int .i64 x.2.2.2.2.1, .int .i64 x.2.2.2.2.2.1, .int .i64 x.2.2.2.2.2.2.1, .int .i64 x.2.2.2.2.2.2.2.1, .own 6, .own 7, .bool x.2.2.2.2.2.2.2.2.1, .str x.2.2.2.2.2.2.2.2.2.1], .arr tTxn x.2.2.2.2.2.2.2.2.2.2.1, .box [.int .i64 x.2.2.2.2.2.2.2.2.2.2.2.1, .int .i64 x.2.2.2.2.2.2.2.2.2.2.2.2.1, .int .i64 x.2.2.2.2.2.2.2.2.2.2.2.2.2.1, .int .i64 x.2.2.2.2.2.2.2.2.2.2.2.2.2.2.1, .own 8, .own 9, .bool x.2.2.2.2.2.2.2.2.2.2.2.2.2.2.2.1, .str x.2.2.2.2.2.2.2.2.2.2.2.2.2.2.2.2.1], .arr tTxn x.2.2.2.2.2.2.2.2.2.2.2.2.2.2.2.2.2.1, .box [.int .i64 x.2.2.2.2.2.2.2.2.2.2.2.2.2.2.2.2.2.2.1, .int .i64 x.2.2.2.2.2.2.2.2.2.2.2.2.2.2.2.2.2.2.2.1, .int .i64 x.2.2.2.2.2.2.2.2.2.2.2.2.2.2.2.2.2.2.2.2.1, .int .i64 x.2.2.2.2.2.2.2.2.2.2.2.2.2.2.2.2.2.2.2.2.2.1, .own 10, .own 11, .bool x.2.2.2.2.2.2.2.2.2.2.2.2.2.2.2.2.2.2.2.2.2.2.1, .str x.2.2.2.2.2.2.2.2.2.2.2.2.2.2.2.2.2.2.2.2.2.2.2.1], .box [.int .i64 x.2.2.2.2.2.2.2.2.2.2.2.2.2.2.2.2.2.2.2.2.2.2.2.2.1, .int .i64 x.2.2.2.2.2.2.2.2.2.2.2.2.2.2.2.2.2.2.2.2.2.2.2.2.2.1, .int .i64 x.2.2.2.2.2.2.2.2.2.2.2.2.2.2.2.2.2.2.2.2.2.2.2.2.2.2.1, .int .i64 x.2.2.2.2.2.2.2.2.2.2.2.2.2.2.2.2.2.2.2.2.2.2.2.2.2.2.2.1, .own 12, .own 7, .bool x.2.2.2.2.2.2.2.2.2.2.2.2.2.2.2.2.2.2.2.2.2.2.2.2.2.2.2.2.1, .str x.2.2.2.2.2.2.2.2.2.2.2.2.2.2.2.2.2.2.2.2.2.2.2.2.2.2.2.2.2.1], .arr tRange x.2.2.2.2.2.2.2.2.2.2.2.2.2.2.2.2.2.2.2.2.2.2.2.2.2.2.2.2.2.2.1, .arr tWrite x.2.2.2.2.2.2.2.2.2.2.2.2.2.2.2.2.2.2.2.2.2.2.2.2.2.2.2.2.2.2.2.1, .arr tRange x.2.2.2.2.2.2.2.2.2.2.2.2.2.2.2.2.2.2.2.2.2.2.2.2.2.2.2.2.2.2.2.2.1, .arr tWrite x.2.2.2.2.2.2.2.2.2.2.2.2.2.2.2.2.2.2.2.2.2.2.2.2.2.2.2.2.2.2.2.2.2.1, .arr tRange x.2.2.2.2.2.2.2.2.2.2.2.2.2.2.2.2.2.2.2.2.2.2.2.2.2.2.2.2.2.2.2.2.2.2.1, .arr tWrite x.2.2.2.2.2.2.2.2.2.2.2.2.2.2.2.2.2.2.2.2.2.2.2.2.2.2.2.2.2.2.2.2.2.2.2.1, .arr tRange x.2.2.2.2.2.2.2.2.2.2.2.2.2.2.2.2.2.2.2.2.2.2.2.2.2.2.2.2.2.2.2.2.2.2.2.2])
def laws_FnDangers_e0 : q25T → Out × List AV × St := (fun z => ((.exit 0), [.bp 0 0, .own 1, .bool z.1, .bool z.2.1, .bp 2 0, .own 3, .bp 4 0, .bp 5 0, .bool z.2.2.1, .int .i64 z.2.2.2.1], [.box [.int .i64 z.2.2.2.2.1, .int .i64 z.2.2.2.2.2.1, .int .i64 z.2.2.2.2.2.2.1, .int .i64 z.2.2.2.2.2.2.2.1, .own 6, .own 7, .bool z.2.2.2.2.2.2.2.2.1, .str z.2.2.2.2.2.2.2.2.2.1], .arr tTxn z.2.2.2.2.2.2.2.2.2.2.1, .box [.int .i64 z.2.2.2.2.2.2.2.2.2.2.2.1, .int .i64 z.2.2.2.2.2.2.2.2.2.2.2.2.1, .int .i64 z.2.2.2.2.2.2.2.2.2.2.2.2.2.1, .int .i64 z.2.2.2.2.2.2.2.2.2.2.2.2.2.2.1, .own 8, .own 9, .bool z.2.2.2.2.2.2.2.2.2.2.2.2.2.2.2.1, .str z.2.2.2.2.2.2.2.2.2.2.2.2.2.2.2.2.1], .arr tTxn z.2.2.2.2.2.2.2.2.2.2.2.2.2.2.2.2.2.1, .box [.int .i64 z.2.2.2.2.2.2.2.2.2.2.2.2.2.2.2.2.2.2.1, .int .i64 z.2.2.2.2.2.2.2.2.2.2.2.2.2.2.2.2.2.2.2.1, .int .i64 z.2.2.2.2.2.2.2.2.2.2.2.2.2.2.2.2.2.2.2.2.1, .int .i64 z.2.2.2.2.2.2.2.2.2.2.2.2.2.2.2.2.2.2.2.2.2.1, .own 10, .own 11, .bool z.2.2.2.2.2.2.2.2.2.2.2.2.2.2.2.2.2.2.2.2.2.2.1, .str z.2.2.2.2.2.2.2.2.2.2.2.2.2.2.2.2.2.2.2.2.2.2.2.1], .box [.int .i64 z.2.2.2.2.2.2.2.2.2.2.2.2.2.2.2.2.2.2.2.2.2.2.2.2.1, .int .i64 z.2.2.2.2.2.2.2.2.2.2.2.2.2.2.2.2.2.2.2.2.2.2.2.2.2.1, .int .i64 z.2.2.2.2.2.2.2.2.2.2.2.2.2.2.2.2.2.2.2.2.2.2.2.2.2.2.1, .int .i64 z.2.2.2.2.2.2.2.2.2.2.2.2.2.2.2.2.2.2.2.2.2.2.2.2.2.2.2.1, .own 12, .own 7, .bool z.2.2.2.2.2.2.2.2.2.2.2.2.2.2.2.2.2.2.2.2.2.2.2.2.2.2.2.2.1, .str z.2.2.2.2.2.2.2.2.2.2.2.2.2.2.2.2.2.2.2.2.2.2.2.2.2.2.2.2.2.1], .arr tRange z.2.2.2.2.2.2.2.2.2.2.2.2.2.2.2.2.2.2.2.2.2.2.2.2.2.2.2.2.2.2.1, .arr tWrite z.2.2.2.2.2.2.2.2.2.2.2.2.2.2.2.2.2.2.2.2.2.2.2.2.2.2.2.2.2.2.2.1, .arr tRange z.2.2.2.2.2.2.2.2.2.2.2.2.2.2.2.2.2.2.2.2.2.2.2.2.2.2.2.2.2.2.2.2.1, .arr tWrite z.2.2.2.2.2.2.2.2.2.2.2.2.2.2.2.2.2.2.2.2.2.2.2.2.2.2.2.2.2.2.2.2.2.1, .arr tRange z.2.2.2.2.2.2.2.2.2.2.2.2.2.2.2.2.2.2.2.2.2.2.2.2.2.2.2.2.2.2.2.2.2.2.1, .arr tWrite z.2.2.2.2.2.2.2.2.2.2.2.2.2.2.2.2.2.2.2.2.2.2.2.2.2.2.2.2.2.2.2.2.2.2.2.1, .arr tRange z.2.2.2.2.2.2.2.2.2.2.2.2.2.2.2.2.2.2.2.2.2.2.2.2.2.2.2.2.2.2.2.2.2.2.2.2]))

theorem laws_FnDangers_bx0 (x : q25T) : exec G80 ⟨0, 141, laws_FnDangers_loops⟩ (loopBody Try.f5 0) (bodyK ⟨0, 141, laws_FnDangers_loops⟩ [3, 4, 5, 6, 7, 8, 9, 10, 11, 12] []) (setEs (deads 141) [3, 4, 5, 6, 7, 8, 9, 10, 11, 12] (laws_FnDangers_v0 x)) (laws_FnDangers_s0 x) = laws_FnDangers_b0 x (Sum.elim (fun y => some ⟨.norm, laws_FnDangers_v0 y, laws_FnDangers_s0 y⟩) fun z => some ⟨(laws_FnDangers_e0 z).1, (laws_FnDangers_e0 z).2.1, (laws_FnDangers_e0 z).2.2⟩) := by
  kernel_rfl

theorem laws_FnDangers_lo0 : ∀ sp, (laws_FnDangers_loops 0) = some sp → LoopOk G80 ⟨0, 141, laws_FnDangers_loops⟩ sp (loopBody Try.f5 0) := by
  intro sp hsp vals st k r h
  cases hsp
  dsimp only at h
  rcases onPats_inv2 h with ⟨p, q, rfl, rfl, h⟩ | h
  · exact loop_runs2 laws_FnDangers_bp0 laws_FnDangers_v0 laws_FnDangers_s0 laws_FnDangers_e0 (fun z => by (intro h; cases h)) laws_FnDangers_bx0 Fuel (p.2.2.1, p.2.2.2.1, p.2.2.2.2.2.2.2.2.1, p.2.2.2.2.2.2.2.2.2.1, q.1.1, q.1.2.1, q.1.2.2.1, q.1.2.2.2.1, q.1.2.2.2.2.2.2.1, q.1.2.2.2.2.2.2.2.1, q.2.1, q.2.2.1.1, q.2.2.1.2.1, q.2.2.1.2.2.1, q.2.2.1.2.2.2.1, q.2.2.1.2.2.2.2.2.2.1, q.2.2.1.2.2.2.2.2.2.2.1, q.2.2.2.1, q.2.2.2.2.1.1, q.2.2.2.2.1.2.1, q.2.2.2.2.1.2.2.1, q.2.2.2.2.1.2.2.2.1, q.2.2.2.2.1.2.2.2.2.2.2.1, q.2.2.2.2.1.2.2.2.2.2.2.2.1, q.2.2.2.2.2.1.1, q.2.2.2.2.2.1.2.1, q.2.2.2.2.2.1.2.2.1, q.2.2.2.2.2.1.2.2.2.1, q.2.2.2.2.2.1.2.2.2.2.2.2.1, q.2.2.2.2.2.1.2.2.2.2.2.2.2.1, q.2.2.2.2.2.2.1, q.2.2.2.2.2.2.2.1, q.2.2.2.2.2.2.2.2.1, q.2.2.2.2.2.2.2.2.2.1, q.2.2.2.2.2.2.2.2.2.2.1, q.2.2.2.2.2.2.2.2.2.2.2.1, q.2.2.2.2.2.2.2.2.2.2.2.2.1) _ k r (fun z => rfl) h
  cases h

theorem laws_FnDangers_y (a0 : (List Int)) : execFn G80 laws_FnDangers_loops Try.f5 [.lst (.int .u8) a0] [] = laws_FnDangers_k a0 (fun (y : Bool) => some ⟨.ret, [.bool y], []⟩) := by rw [laws_FnDangers_e]; kernel_rfl

theorem laws_FnDangers_l : LoopsOk G80 ⟨0, 141, laws_FnDangers_loops⟩ (Try.f5.body.getD .skip) :=
  loopsOk_of (ids := [0]) (by kernel_rfl) (by kernel_rfl) ⟨laws_FnDangers_lo0, trivial⟩

theorem laws_FnDangers_c : Contract Try.prog 5 laws_FnDangers_g := by
  refine told G80_ok follows Try.func5 (c := Try.f5.body.getD .skip) (by kernel_rfl) ?_
  intro args s k r hk
  unfold laws_FnDangers_g at hk
  rcases onPats_inv hk with ⟨p, q, rfl, rfl⟩ | hk
  · exact ⟨laws_FnDangers_loops, laws_FnDangers_q p.1, laws_FnDangers_y p.1, laws_FnDangers_l⟩
  cases hk

def G81 : Glob := G80.add 5 laws_FnDangers_g

theorem G81_ok : GlobOk Try.prog G81 := G80_ok.add ⟨Try.f5, Try.func5, by kernel_rfl, by kernel_rfl⟩ laws_FnDangers_c

end

end Go.VE
