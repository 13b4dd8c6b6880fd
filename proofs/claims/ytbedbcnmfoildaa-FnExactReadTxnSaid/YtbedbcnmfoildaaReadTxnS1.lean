/- Each function told by its native program; written by gen.py. -/

import Derived.Test.YtbedbcnmfoildaaReadTxnS0

namespace Go.VE

open Go.Proofs

noncomputable section

set_option linter.unusedVariables false
set_option linter.unusedSimpArgs false
set_option maxRecDepth 100000


/-! ### loop.example/g00327/spec.l01In -/

def spec_l01In_loops : Nat → Option LoopSpec
  | _ => none

theorem spec_l01In_x (a0 : Int) (a1 : Int) (a2 : Int) : execFn G0 spec_l01In_loops Try.f145 [.int .i64 a0, .int .i64 a1, .int .i64 a2] [] = spec_l01In_d a0 a1 a2 (fun (y : Bool) => some ⟨.ret, [.bool y], []⟩) := by kernel_rfl

theorem spec_l01In_y (a0 : Int) (a1 : Int) (a2 : Int) : execFn G0 spec_l01In_loops Try.f145 [.int .i64 a0, .int .i64 a1, .int .i64 a2] [] = spec_l01In_k a0 a1 a2 (fun (y : Bool) => some ⟨.ret, [.bool y], []⟩) := (spec_l01In_x a0 a1 a2).trans (by rw [spec_l01In_e])

theorem spec_l01In_l : LoopsOk G0 ⟨0, 15, spec_l01In_loops⟩ (Try.f145.body.getD .skip) :=
  loopsOk_of (ids := []) (by kernel_rfl) (by kernel_rfl) trivial

theorem spec_l01In_c : Contract Try.prog 145 spec_l01In_g := by
  refine told G0_ok follows Try.func145 (c := Try.f145.body.getD .skip) (by kernel_rfl) ?_
  intro args s k r hk
  unfold spec_l01In_g at hk
  rcases onPats_inv hk with ⟨p, q, rfl, rfl⟩ | hk
  · exact ⟨spec_l01In_loops, spec_l01In_q p.1 p.2.1 p.2.2.1, spec_l01In_y p.1 p.2.1 p.2.2.1, spec_l01In_l⟩
  cases hk

def G1 : Glob := G0.add 145 spec_l01In_g

theorem G1_ok : GlobOk Try.prog G1 := G0_ok.add ⟨Try.f145, Try.func145, by kernel_rfl, by kernel_rfl⟩ spec_l01In_c

/-! ### loop.example/g00327/spec.l01Var -/

def spec_l01Var_loops : Nat → Option LoopSpec
  | 0 => some ⟨[0, 3], [], fun vals st k => onPats [.int .i64, .own 0] [.arr (.int .u8)] vals st (fun p q => loopK spec_l01Var_b0 Fuel (p.1, q.1) (fun z => k (.exit 0) [.int .i64 z.1, .own 0] [.arr (.int .u8) z.2]))
      (none)⟩
  | _ => none

def spec_l01Var_v0 : (Int × (List Int)) → List AV := (fun x => [.int .i64 x.1, .own 0])
def spec_l01Var_s0 : (Int × (List Int)) → St := (fun x => [.arr (.int .u8) x.2])
def spec_l01Var_e0 : (Int × (List Int)) → Out × List AV × St := (fun z => ((.exit 0), [.int .i64 z.1, .own 0], [.arr (.int .u8) z.2]))

theorem spec_l01Var_bx0 (x : (Int × (List Int))) : exec G1 ⟨0, 22, spec_l01Var_loops⟩ (loopBody Try.f86 0) (bodyK ⟨0, 22, spec_l01Var_loops⟩ [0, 3] []) (setEs (deads 22) [0, 3] (spec_l01Var_v0 x)) (spec_l01Var_s0 x) = spec_l01Var_b0 x (Sum.elim (fun y => some ⟨.norm, spec_l01Var_v0 y, spec_l01Var_s0 y⟩) fun z => some ⟨(spec_l01Var_e0 z).1, (spec_l01Var_e0 z).2.1, (spec_l01Var_e0 z).2.2⟩) := by
  kernel_rfl

theorem spec_l01Var_lo0 : ∀ sp, (spec_l01Var_loops 0) = some sp → LoopOk G1 ⟨0, 22, spec_l01Var_loops⟩ sp (loopBody Try.f86 0) := by
  intro sp hsp vals st k r h
  cases hsp
  dsimp only at h
  rcases onPats_inv2 h with ⟨p, q, rfl, rfl, h⟩ | h
  · exact loop_runs2 spec_l01Var_bp0 spec_l01Var_v0 spec_l01Var_s0 spec_l01Var_e0 (fun z => by (intro h; cases h)) spec_l01Var_bx0 Fuel (p.1, q.1) _ k r (fun z => rfl) h
  cases h

theorem spec_l01Var_x (a0 : Int) : execFn G1 spec_l01Var_loops Try.f86 [.int .i64 a0] [] = spec_l01Var_d a0 (fun (y : ByteArray) => some ⟨.ret, [.str y], []⟩) := by kernel_rfl

theorem spec_l01Var_y (a0 : Int) : execFn G1 spec_l01Var_loops Try.f86 [.int .i64 a0] [] = spec_l01Var_k a0 (fun (y : ByteArray) => some ⟨.ret, [.str y], []⟩) := (spec_l01Var_x a0).trans (by rw [spec_l01Var_e])

theorem spec_l01Var_l : LoopsOk G1 ⟨0, 22, spec_l01Var_loops⟩ (Try.f86.body.getD .skip) :=
  loopsOk_of (ids := [0]) (by kernel_rfl) (by kernel_rfl) ⟨spec_l01Var_lo0, trivial⟩

theorem spec_l01Var_c : Contract Try.prog 86 spec_l01Var_g := by
  refine told G1_ok follows Try.func86 (c := Try.f86.body.getD .skip) (by kernel_rfl) ?_
  intro args s k r hk
  unfold spec_l01Var_g at hk
  rcases onPats_inv hk with ⟨p, q, rfl, rfl⟩ | hk
  · exact ⟨spec_l01Var_loops, spec_l01Var_q p.1, spec_l01Var_y p.1, spec_l01Var_l⟩
  cases hk

def G2 : Glob := G1.add 86 spec_l01Var_g

theorem G2_ok : GlobOk Try.prog G2 := G1_ok.add ⟨Try.f86, Try.func86, by kernel_rfl, by kernel_rfl⟩ spec_l01Var_c

/-! ### loop.example/g00327/spec.ReadVar -/

def spec_ReadVar_loops : Nat → Option LoopSpec
  | 6000001 => some ⟨[0, 1, 4, 5, 6, 7, 8, 9], [], fun vals st k => onPats [.str, .int .i64, .int .i64, .int .i64, .bool, .int .i64, .int .i64, .int .i64] [] vals st (fun p q => spec_ReadVar_j6000001 (p.1, p.2.1, p.2.2.1, p.2.2.2.1, p.2.2.2.2.1, p.2.2.2.2.2.1, p.2.2.2.2.2.2.1, p.2.2.2.2.2.2.2.1) (Sum.elim (fun z => k .ret [.str z.1, .int .i64 z.2.1, .int .i64 z.2.2.1, .int .i64 z.2.2.2.1, .bool z.2.2.2.2.1, .int .i64 z.2.2.2.2.2.1, .int .i64 z.2.2.2.2.2.2.1, .int .i64 z.2.2.2.2.2.2.2] []) (fun z => k .norm [.str z.1, .int .i64 z.2.1, .int .i64 z.2.2.1, .int .i64 z.2.2.2.1, .bool z.2.2.2.2.1, .int .i64 z.2.2.2.2.2.1, .int .i64 z.2.2.2.2.2.2.1, .int .i64 z.2.2.2.2.2.2.2] [])))
      (none)⟩
  | 0 => some ⟨[0, 1, 4, 5, 6, 7, 8, 9], [], fun vals st k => onPats [.str, .int .i64, .int .i64, .int .i64, .bool, .int .i64, .int .i64, .int .i64] [] vals st (fun p q => loopK spec_ReadVar_b0 Fuel (p.1, p.2.1, p.2.2.1, p.2.2.2.1, p.2.2.2.2.1, p.2.2.2.2.2.1, p.2.2.2.2.2.2.1, p.2.2.2.2.2.2.2.1) (Sum.elim (fun z => k (.exit 0) [.str z.1, .int .i64 z.2.1, .int .i64 z.2.2.1, .int .i64 z.2.2.2.1, .bool z.2.2.2.2.1, .int .i64 z.2.2.2.2.2.1, .int .i64 z.2.2.2.2.2.2.1, .int .i64 z.2.2.2.2.2.2.2] []) (fun z => k .ret [.str z.1, .int .i64 z.2.1, .int .i64 z.2.2.1, .int .i64 z.2.2.2.1, .bool z.2.2.2.2.1, .int .i64 z.2.2.2.2.2.1, .int .i64 z.2.2.2.2.2.2.1, .int .i64 z.2.2.2.2.2.2.2] [])))
      (none)⟩
  | 2000011 => some ⟨[0, 2, 4, 6, 10, 12, 14, 16, 18, 8, 20, 22], [], fun _ _ _ => none⟩
  | _ => none

def spec_ReadVar_jv6000001 : (ByteArray × Int × Int × Int × Bool × Int × Int × Int) → List AV := (fun x => [.str x.1, .int .i64 x.2.1, .int .i64 x.2.2.1, .int .i64 x.2.2.2.1, .bool x.2.2.2.2.1, .int .i64 x.2.2.2.2.2.1, .int .i64 x.2.2.2.2.2.2.1, .int .i64 x.2.2.2.2.2.2.2])
def spec_ReadVar_js6000001 : (ByteArray × Int × Int × Int × Bool × Int × Int × Int) → St := (fun x => [])
def spec_ReadVar_je6000001 : ((ByteArray × Int × Int × Int × Bool × Int × Int × Int) ⊕ (ByteArray × Int × Int × Int × Bool × Int × Int × Int)) → Out × List AV × St := (Sum.elim (fun z => (.ret, [.str z.1, .int .i64 z.2.1, .int .i64 z.2.2.1, .int .i64 z.2.2.2.1, .bool z.2.2.2.2.1, .int .i64 z.2.2.2.2.2.1, .int .i64 z.2.2.2.2.2.2.1, .int .i64 z.2.2.2.2.2.2.2], [])) (fun z => (.norm, [.str z.1, .int .i64 z.2.1, .int .i64 z.2.2.1, .int .i64 z.2.2.2.1, .bool z.2.2.2.2.1, .int .i64 z.2.2.2.2.2.1, .int .i64 z.2.2.2.2.2.2.1, .int .i64 z.2.2.2.2.2.2.2], [])))

theorem spec_ReadVar_jx6000001 (x : (ByteArray × Int × Int × Int × Bool × Int × Int × Int)) : exec G2 ⟨0, 58, spec_ReadVar_loops⟩ (loopBody Try.f189 6000001) (bodyK ⟨0, 58, spec_ReadVar_loops⟩ [0, 1, 4, 5, 6, 7, 8, 9] []) (setEs (deads 58) [0, 1, 4, 5, 6, 7, 8, 9] (spec_ReadVar_jv6000001 x)) (spec_ReadVar_js6000001 x) = spec_ReadVar_j6000001 x (fun z => some ⟨(spec_ReadVar_je6000001 z).1, (spec_ReadVar_je6000001 z).2.1, (spec_ReadVar_je6000001 z).2.2⟩) := by
  kernel_rfl

theorem spec_ReadVar_lo6000001 : ∀ sp, (spec_ReadVar_loops 6000001) = some sp → CutOk G2 ⟨0, 58, spec_ReadVar_loops⟩ sp (loopBody Try.f189 6000001) := by
  intro sp hsp vals st k r h
  cases hsp
  dsimp only at h
  rcases onPats_inv2 h with ⟨p, q, rfl, rfl, h⟩ | h
  · exact cut_runs spec_ReadVar_jp6000001 spec_ReadVar_jv6000001 spec_ReadVar_js6000001 spec_ReadVar_je6000001 spec_ReadVar_jx6000001 (p.1, p.2.1, p.2.2.1, p.2.2.2.1, p.2.2.2.2.1, p.2.2.2.2.2.1, p.2.2.2.2.2.2.1, p.2.2.2.2.2.2.2.1) _ k r (fun z => by rcases z with z | z <;> rfl) h
  cases h

def spec_ReadVar_v0 : (ByteArray × Int × Int × Int × Bool × Int × Int × Int) → List AV := (fun x => [.str x.1, .int .i64 x.2.1, .int .i64 x.2.2.1, .int .i64 x.2.2.2.1, .bool x.2.2.2.2.1, .int .i64 x.2.2.2.2.2.1, .int .i64 x.2.2.2.2.2.2.1, .int .i64 x.2.2.2.2.2.2.2])
def spec_ReadVar_s0 : (ByteArray × Int × Int × Int × Bool × Int × Int × Int) → St := (fun x => [])
def spec_ReadVar_e0 : ((ByteArray × Int × Int × Int × Bool × Int × Int × Int) ⊕ (ByteArray × Int × Int × Int × Bool × Int × Int × Int)) → Out × List AV × St := (Sum.elim (fun z => ((.exit 0), [.str z.1, .int .i64 z.2.1, .int .i64 z.2.2.1, .int .i64 z.2.2.2.1, .bool z.2.2.2.2.1, .int .i64 z.2.2.2.2.2.1, .int .i64 z.2.2.2.2.2.2.1, .int .i64 z.2.2.2.2.2.2.2], [])) (fun z => (.ret, [.str z.1, .int .i64 z.2.1, .int .i64 z.2.2.1, .int .i64 z.2.2.2.1, .bool z.2.2.2.2.1, .int .i64 z.2.2.2.2.2.1, .int .i64 z.2.2.2.2.2.2.1, .int .i64 z.2.2.2.2.2.2.2], [])))

theorem spec_ReadVar_bx0 (x : (ByteArray × Int × Int × Int × Bool × Int × Int × Int)) : exec G2 ⟨0, 58, spec_ReadVar_loops⟩ (loopBody Try.f189 0) (bodyK ⟨0, 58, spec_ReadVar_loops⟩ [0, 1, 4, 5, 6, 7, 8, 9] []) (setEs (deads 58) [0, 1, 4, 5, 6, 7, 8, 9] (spec_ReadVar_v0 x)) (spec_ReadVar_s0 x) = spec_ReadVar_b0 x (Sum.elim (fun y => some ⟨.norm, spec_ReadVar_v0 y, spec_ReadVar_s0 y⟩) fun z => some ⟨(spec_ReadVar_e0 z).1, (spec_ReadVar_e0 z).2.1, (spec_ReadVar_e0 z).2.2⟩) := by
  kernel_rfl

theorem spec_ReadVar_lo0 : ∀ sp, (spec_ReadVar_loops 0) = some sp → LoopOk G2 ⟨0, 58, spec_ReadVar_loops⟩ sp (loopBody Try.f189 0) := by
  intro sp hsp vals st k r h
  cases hsp
  dsimp only at h
  rcases onPats_inv2 h with ⟨p, q, rfl, rfl, h⟩ | h
  · exact loop_runs2 spec_ReadVar_bp0 spec_ReadVar_v0 spec_ReadVar_s0 spec_ReadVar_e0 (fun z => by rcases z with z | z <;> (intro h; cases h)) spec_ReadVar_bx0 Fuel (p.1, p.2.1, p.2.2.1, p.2.2.2.1, p.2.2.2.2.1, p.2.2.2.2.2.1, p.2.2.2.2.2.2.1, p.2.2.2.2.2.2.2.1) _ k r (fun z => by rcases z with z | z <;> rfl) h
  cases h

theorem spec_ReadVar_x (a0 : ByteArray) (a1 : Int) : execFn G2 spec_ReadVar_loops Try.f189 [.str a0, .int .i64 a1] [] = spec_ReadVar_d a0 a1 (fun (y : (Int × Int × Bool)) => some ⟨.ret, [.tup [.int .i64 y.1, .int .i64 y.2.1, .bool y.2.2]], []⟩) := by kernel_rfl

theorem spec_ReadVar_y (a0 : ByteArray) (a1 : Int) : execFn G2 spec_ReadVar_loops Try.f189 [.str a0, .int .i64 a1] [] = spec_ReadVar_k a0 a1 (fun (y : (Int × Int × Bool)) => some ⟨.ret, [.tup [.int .i64 y.1, .int .i64 y.2.1, .bool y.2.2]], []⟩) := (spec_ReadVar_x a0 a1).trans (by rw [spec_ReadVar_e])

theorem spec_ReadVar_l : LoopsOk G2 ⟨0, 58, spec_ReadVar_loops⟩ (Try.f189.body.getD .skip) :=
  loopsOk_of (ids := [6000001, 0]) (by kernel_rfl) (by kernel_rfl) ⟨spec_ReadVar_lo6000001, ⟨spec_ReadVar_lo0, trivial⟩⟩

theorem spec_ReadVar_c : Contract Try.prog 189 spec_ReadVar_g := by
  refine told G2_ok follows Try.func189 (c := Try.f189.body.getD .skip) (by kernel_rfl) ?_
  intro args s k r hk
  unfold spec_ReadVar_g at hk
  rcases onPats_inv hk with ⟨p, q, rfl, rfl⟩ | hk
  · exact ⟨spec_ReadVar_loops, spec_ReadVar_q p.1 p.2.1, spec_ReadVar_y p.1 p.2.1, spec_ReadVar_l⟩
  cases hk

def G3 : Glob := G2.add 189 spec_ReadVar_g

theorem G3_ok : GlobOk Try.prog G3 := G2_ok.add ⟨Try.f189, Try.func189, by kernel_rfl, by kernel_rfl⟩ spec_ReadVar_c

/-! ### loop.example/g00327/spec.l07Var -/

def spec_l07Var_loops : Nat → Option LoopSpec
  | 2000001 => some ⟨[0, 2, 4, 6, 8, 10, 12, 14, 16, 18, 20, 22, 24, 26, 28, 30], [], fun _ _ _ => none⟩
  | _ => none

theorem spec_l07Var_x (a0 : ByteArray) (a1 : Int) (a2 : Bool) : execFn G3 spec_l07Var_loops Try.f135 [.bp 0 0] [.box [.str a0, .int .i64 a1, .bool a2]] = spec_l07Var_d a0 a1 a2 (fun (y : (Int × ByteArray × Int × Bool)) => some ⟨.ret, [.int .i64 y.1], [.box [.str y.2.1, .int .i64 y.2.2.1, .bool y.2.2.2]]⟩) := by kernel_rfl

theorem spec_l07Var_y (a0 : ByteArray) (a1 : Int) (a2 : Bool) : execFn G3 spec_l07Var_loops Try.f135 [.bp 0 0] [.box [.str a0, .int .i64 a1, .bool a2]] = spec_l07Var_k a0 a1 a2 (fun (y : (Int × ByteArray × Int × Bool)) => some ⟨.ret, [.int .i64 y.1], [.box [.str y.2.1, .int .i64 y.2.2.1, .bool y.2.2.2]]⟩) := (spec_l07Var_x a0 a1 a2).trans (by rw [spec_l07Var_e])

theorem spec_l07Var_l : LoopsOk G3 ⟨1, 35, spec_l07Var_loops⟩ (Try.f135.body.getD .skip) :=
  loopsOk_of (ids := []) (by kernel_rfl) (by kernel_rfl) trivial

theorem spec_l07Var_c : Contract Try.prog 135 spec_l07Var_g := by
  refine told G3_ok follows Try.func135 (c := Try.f135.body.getD .skip) (by kernel_rfl) ?_
  intro args s k r hk
  unfold spec_l07Var_g at hk
  rcases onPats_inv hk with ⟨p, q, rfl, rfl⟩ | hk
  · exact ⟨spec_l07Var_loops, spec_l07Var_q q.1.1 q.1.2.1 q.1.2.2.1, spec_l07Var_y q.1.1 q.1.2.1 q.1.2.2.1, spec_l07Var_l⟩
  cases hk

def G4 : Glob := G3.add 135 spec_l07Var_g

theorem G4_ok : GlobOk Try.prog G4 := G3_ok.add ⟨Try.f135, Try.func135, by kernel_rfl, by kernel_rfl⟩ spec_l07Var_c

/-! ### loop.example/g00327/spec.ReadShort -/

def spec_ReadShort_loops : Nat → Option LoopSpec
  | _ => none

theorem spec_ReadShort_x (a0 : ByteArray) (a1 : Int) : execFn G4 spec_ReadShort_loops Try.f190 [.str a0, .int .i64 a1] [] = spec_ReadShort_d a0 a1 (fun (y : (ByteArray × Int × Bool)) => some ⟨.ret, [.tup [.str y.1, .int .i64 y.2.1, .bool y.2.2]], []⟩) := by kernel_rfl

theorem spec_ReadShort_y (a0 : ByteArray) (a1 : Int) : execFn G4 spec_ReadShort_loops Try.f190 [.str a0, .int .i64 a1] [] = spec_ReadShort_k a0 a1 (fun (y : (ByteArray × Int × Bool)) => some ⟨.ret, [.tup [.str y.1, .int .i64 y.2.1, .bool y.2.2]], []⟩) := (spec_ReadShort_x a0 a1).trans (by rw [spec_ReadShort_e])

theorem spec_ReadShort_l : LoopsOk G4 ⟨0, 40, spec_ReadShort_loops⟩ (Try.f190.body.getD .skip) :=
  loopsOk_of (ids := []) (by kernel_rfl) (by kernel_rfl) trivial

theorem spec_ReadShort_c : Contract Try.prog 190 spec_ReadShort_g := by
  refine told G4_ok follows Try.func190 (c := Try.f190.body.getD .skip) (by kernel_rfl) ?_
  intro args s k r hk
  unfold spec_ReadShort_g at hk
  rcases onPats_inv hk with ⟨p, q, rfl, rfl⟩ | hk
  · exact ⟨spec_ReadShort_loops, spec_ReadShort_q p.1 p.2.1, spec_ReadShort_y p.1 p.2.1, spec_ReadShort_l⟩
  cases hk

def G5 : Glob := G4.add 190 spec_ReadShort_g

theorem G5_ok : GlobOk Try.prog G5 := G4_ok.add ⟨Try.f190, Try.func190, by kernel_rfl, by kernel_rfl⟩ spec_ReadShort_c

/-! ### loop.example/g00327/spec.l07ReadShort -/

def spec_l07ReadShort_loops : Nat → Option LoopSpec
  | 2000001 => some ⟨[0, 2, 4, 6, 8, 10, 12, 14, 16, 18, 20, 22, 24, 26, 28, 30], [], fun _ _ _ => none⟩
  | _ => none

theorem spec_l07ReadShort_x (a0 : ByteArray) (a1 : Int) (a2 : Bool) : execFn G5 spec_l07ReadShort_loops Try.f136 [.bp 0 0] [.box [.str a0, .int .i64 a1, .bool a2]] = spec_l07ReadShort_d a0 a1 a2 (fun (y : (ByteArray × ByteArray × Int × Bool)) => some ⟨.ret, [.str y.1], [.box [.str y.2.1, .int .i64 y.2.2.1, .bool y.2.2.2]]⟩) := by kernel_rfl

theorem spec_l07ReadShort_y (a0 : ByteArray) (a1 : Int) (a2 : Bool) : execFn G5 spec_l07ReadShort_loops Try.f136 [.bp 0 0] [.box [.str a0, .int .i64 a1, .bool a2]] = spec_l07ReadShort_k a0 a1 a2 (fun (y : (ByteArray × ByteArray × Int × Bool)) => some ⟨.ret, [.str y.1], [.box [.str y.2.1, .int .i64 y.2.2.1, .bool y.2.2.2]]⟩) := (spec_l07ReadShort_x a0 a1 a2).trans (by rw [spec_l07ReadShort_e])

theorem spec_l07ReadShort_l : LoopsOk G5 ⟨1, 35, spec_l07ReadShort_loops⟩ (Try.f136.body.getD .skip) :=
  loopsOk_of (ids := []) (by kernel_rfl) (by kernel_rfl) trivial

theorem spec_l07ReadShort_c : Contract Try.prog 136 spec_l07ReadShort_g := by
  refine told G5_ok follows Try.func136 (c := Try.f136.body.getD .skip) (by kernel_rfl) ?_
  intro args s k r hk
  unfold spec_l07ReadShort_g at hk
  rcases onPats_inv hk with ⟨p, q, rfl, rfl⟩ | hk
  · exact ⟨spec_l07ReadShort_loops, spec_l07ReadShort_q q.1.1 q.1.2.1 q.1.2.2.1, spec_l07ReadShort_y q.1.1 q.1.2.1 q.1.2.2.1, spec_l07ReadShort_l⟩
  cases hk

def G6 : Glob := G5.add 136 spec_l07ReadShort_g

theorem G6_ok : GlobOk Try.prog G6 := G5_ok.add ⟨Try.f136, Try.func136, by kernel_rfl, by kernel_rfl⟩ spec_l07ReadShort_c

/-! ### loop.example/g00327/spec.l07ReadBit -/

def spec_l07ReadBit_loops : Nat → Option LoopSpec
  | 5000004 => some ⟨[0, 2], [], fun vals st k => onPats [.bp 0 0, .bool] [.box [.str, .int .i64, .bool]] vals st (fun p q => spec_l07ReadBit_j5000004 (p.2.1, q.1.1, q.1.2.1, q.1.2.2.1) (fun z => k .ret [.bp 0 0, .bool z.1] [.box [.str z.2.1, .int .i64 z.2.2.1, .bool z.2.2.2]]))
      (none)⟩
  | 2000001 => some ⟨[0, 2, 4, 6, 8, 10, 12, 14, 16, 18, 20, 22, 24, 26, 28, 30, 32, 34, 36, 38, 40, 42, 44, 46, 48, 50, 52, 54], [], fun _ _ _ => none⟩
  | 2000005 => some ⟨[0, 2, 4, 6, 8, 10, 12, 14, 16, 18, 20, 22], [], fun _ _ _ => none⟩
  | _ => none

def spec_l07ReadBit_jv5000004 : (Bool × ByteArray × Int × Bool) → List AV := (fun x => [.bp 0 0, .bool x.1])
def spec_l07ReadBit_js5000004 : (Bool × ByteArray × Int × Bool) → St := (fun x => [.box [.str x.2.1, .int .i64 x.2.2.1, .bool x.2.2.2]])
def spec_l07ReadBit_je5000004 : (Bool × ByteArray × Int × Bool) → Out × List AV × St := (fun z => (.ret, [.bp 0 0, .bool z.1], [.box [.str z.2.1, .int .i64 z.2.2.1, .bool z.2.2.2]]))

theorem spec_l07ReadBit_jx5000004 (x : (Bool × ByteArray × Int × Bool)) : exec G6 ⟨1, 53, spec_l07ReadBit_loops⟩ (loopBody Try.f137 5000004) (bodyK ⟨1, 53, spec_l07ReadBit_loops⟩ [0, 2] []) (setEs (deads 53) [0, 2] (spec_l07ReadBit_jv5000004 x)) (spec_l07ReadBit_js5000004 x) = spec_l07ReadBit_j5000004 x (fun z => some ⟨(spec_l07ReadBit_je5000004 z).1, (spec_l07ReadBit_je5000004 z).2.1, (spec_l07ReadBit_je5000004 z).2.2⟩) := by
  kernel_rfl

theorem spec_l07ReadBit_lo5000004 : ∀ sp, (spec_l07ReadBit_loops 5000004) = some sp → CutOk G6 ⟨1, 53, spec_l07ReadBit_loops⟩ sp (loopBody Try.f137 5000004) := by
  intro sp hsp vals st k r h
  cases hsp
  dsimp only at h
  rcases onPats_inv2 h with ⟨p, q, rfl, rfl, h⟩ | h
  · exact cut_runs spec_l07ReadBit_jp5000004 spec_l07ReadBit_jv5000004 spec_l07ReadBit_js5000004 spec_l07ReadBit_je5000004 spec_l07ReadBit_jx5000004 (p.2.1, q.1.1, q.1.2.1, q.1.2.2.1) _ k r (fun z => rfl) h
  cases h

theorem spec_l07ReadBit_x (a0 : ByteArray) (a1 : Int) (a2 : Bool) : execFn G6 spec_l07ReadBit_loops Try.f137 [.bp 0 0] [.box [.str a0, .int .i64 a1, .bool a2]] = spec_l07ReadBit_d a0 a1 a2 (fun (y : (Bool × ByteArray × Int × Bool)) => some ⟨.ret, [.bool y.1], [.box [.str y.2.1, .int .i64 y.2.2.1, .bool y.2.2.2]]⟩) := by kernel_rfl

theorem spec_l07ReadBit_y (a0 : ByteArray) (a1 : Int) (a2 : Bool) : execFn G6 spec_l07ReadBit_loops Try.f137 [.bp 0 0] [.box [.str a0, .int .i64 a1, .bool a2]] = spec_l07ReadBit_k a0 a1 a2 (fun (y : (Bool × ByteArray × Int × Bool)) => some ⟨.ret, [.bool y.1], [.box [.str y.2.1, .int .i64 y.2.2.1, .bool y.2.2.2]]⟩) := (spec_l07ReadBit_x a0 a1 a2).trans (by rw [spec_l07ReadBit_e])

theorem spec_l07ReadBit_l : LoopsOk G6 ⟨1, 53, spec_l07ReadBit_loops⟩ (Try.f137.body.getD .skip) :=
  loopsOk_of (ids := [5000004]) (by kernel_rfl) (by kernel_rfl) ⟨spec_l07ReadBit_lo5000004, trivial⟩

theorem spec_l07ReadBit_c : Contract Try.prog 137 spec_l07ReadBit_g := by
  refine told G6_ok follows Try.func137 (c := Try.f137.body.getD .skip) (by kernel_rfl) ?_
  intro args s k r hk
  unfold spec_l07ReadBit_g at hk
  rcases onPats_inv hk with ⟨p, q, rfl, rfl⟩ | hk
  · exact ⟨spec_l07ReadBit_loops, spec_l07ReadBit_q q.1.1 q.1.2.1 q.1.2.2.1, spec_l07ReadBit_y q.1.1 q.1.2.1 q.1.2.2.1, spec_l07ReadBit_l⟩
  cases hk

def G7 : Glob := G6.add 137 spec_l07ReadBit_g

theorem G7_ok : GlobOk Try.prog G7 := G6_ok.add ⟨Try.f137, Try.func137, by kernel_rfl, by kernel_rfl⟩ spec_l07ReadBit_c

/-! ### loop.example/g00327/spec.KeyOk -/

def spec_KeyOk_loops : Nat → Option LoopSpec
  | 0 => some ⟨[0, 2, 3], [], fun vals st k => onPats [.str, .bool, .int .i64] [] vals st (fun p q => loopK spec_KeyOk_b0 Fuel (p.1, p.2.1, p.2.2.1) (Sum.elim (fun z => k .ret [.str z.1, .bool z.2.1, .int .i64 z.2.2] []) (fun z => k (.exit 0) [.str z.1, .bool z.2.1, .int .i64 z.2.2] [])))
      (none)⟩
  | _ => none

def spec_KeyOk_v0 : (ByteArray × Bool × Int) → List AV := (fun x => [.str x.1, .bool x.2.1, .int .i64 x.2.2])
def spec_KeyOk_s0 : (ByteArray × Bool × Int) → St := (fun x => [])
def spec_KeyOk_e0 : ((ByteArray × Bool × Int) ⊕ (ByteArray × Bool × Int)) → Out × List AV × St := (Sum.elim (fun z => (.ret, [.str z.1, .bool z.2.1, .int .i64 z.2.2], [])) (fun z => ((.exit 0), [.str z.1, .bool z.2.1, .int .i64 z.2.2], [])))

theorem spec_KeyOk_bx0 (x : (ByteArray × Bool × Int)) : exec G7 ⟨0, 23, spec_KeyOk_loops⟩ (loopBody Try.f168 0) (bodyK ⟨0, 23, spec_KeyOk_loops⟩ [0, 2, 3] []) (setEs (deads 23) [0, 2, 3] (spec_KeyOk_v0 x)) (spec_KeyOk_s0 x) = spec_KeyOk_b0 x (Sum.elim (fun y => some ⟨.norm, spec_KeyOk_v0 y, spec_KeyOk_s0 y⟩) fun z => some ⟨(spec_KeyOk_e0 z).1, (spec_KeyOk_e0 z).2.1, (spec_KeyOk_e0 z).2.2⟩) := by
  kernel_rfl

theorem spec_KeyOk_lo0 : ∀ sp, (spec_KeyOk_loops 0) = some sp → LoopOk G7 ⟨0, 23, spec_KeyOk_loops⟩ sp (loopBody Try.f168 0) := by
  intro sp hsp vals st k r h
  cases hsp
  dsimp only at h
  rcases onPats_inv2 h with ⟨p, q, rfl, rfl, h⟩ | h
  · exact loop_runs2 spec_KeyOk_bp0 spec_KeyOk_v0 spec_KeyOk_s0 spec_KeyOk_e0 (fun z => by rcases z with z | z <;> (intro h; cases h)) spec_KeyOk_bx0 Fuel (p.1, p.2.1, p.2.2.1) _ k r (fun z => by rcases z with z | z <;> rfl) h
  cases h

theorem spec_KeyOk_x (a0 : ByteArray) : execFn G7 spec_KeyOk_loops Try.f168 [.str a0] [] = spec_KeyOk_d a0 (fun (y : Bool) => some ⟨.ret, [.bool y], []⟩) := by kernel_rfl

theorem spec_KeyOk_y (a0 : ByteArray) : execFn G7 spec_KeyOk_loops Try.f168 [.str a0] [] = spec_KeyOk_k a0 (fun (y : Bool) => some ⟨.ret, [.bool y], []⟩) := (spec_KeyOk_x a0).trans (by rw [spec_KeyOk_e])

theorem spec_KeyOk_l : LoopsOk G7 ⟨0, 23, spec_KeyOk_loops⟩ (Try.f168.body.getD .skip) :=
  loopsOk_of (ids := [0]) (by kernel_rfl) (by kernel_rfl) ⟨spec_KeyOk_lo0, trivial⟩

theorem spec_KeyOk_c : Contract Try.prog 168 spec_KeyOk_g := by
  refine told G7_ok follows Try.func168 (c := Try.f168.body.getD .skip) (by kernel_rfl) ?_
  intro args s k r hk
  unfold spec_KeyOk_g at hk
  rcases onPats_inv hk with ⟨p, q, rfl, rfl⟩ | hk
  · exact ⟨spec_KeyOk_loops, spec_KeyOk_q p.1, spec_KeyOk_y p.1, spec_KeyOk_l⟩
  cases hk

def G8 : Glob := G7.add 168 spec_KeyOk_g

theorem G8_ok : GlobOk Try.prog G8 := G7_ok.add ⟨Try.f168, Try.func168, by kernel_rfl, by kernel_rfl⟩ spec_KeyOk_c

/-! ### loop.example/g00327/spec.WriteOk -/

def spec_WriteOk_loops : Nat → Option LoopSpec
  | _ => none

theorem spec_WriteOk_x (a0 : ByteArray) (a1 : ByteArray) (a2 : Bool) : execFn G8 spec_WriteOk_loops Try.f139 [.agg [.str a0, .str a1, .bool a2]] [] = spec_WriteOk_d (a0, (a1, a2)) (fun (y : Bool) => some ⟨.ret, [.bool y], []⟩) := by kernel_rfl

theorem spec_WriteOk_y (a0 : ByteArray) (a1 : ByteArray) (a2 : Bool) : execFn G8 spec_WriteOk_loops Try.f139 [.agg [.str a0, .str a1, .bool a2]] [] = spec_WriteOk_k (a0, (a1, a2)) (fun (y : Bool) => some ⟨.ret, [.bool y], []⟩) := (spec_WriteOk_x a0 a1 a2).trans (by rw [spec_WriteOk_e])

theorem spec_WriteOk_l : LoopsOk G8 ⟨0, 22, spec_WriteOk_loops⟩ (Try.f139.body.getD .skip) :=
  loopsOk_of (ids := []) (by kernel_rfl) (by kernel_rfl) trivial

theorem spec_WriteOk_c : Contract Try.prog 139 spec_WriteOk_g := by
  refine told G8_ok follows Try.func139 (c := Try.f139.body.getD .skip) (by kernel_rfl) ?_
  intro args s k r hk
  unfold spec_WriteOk_g at hk
  rcases onPats_inv hk with ⟨p, q, rfl, rfl⟩ | hk
  · exact ⟨spec_WriteOk_loops, spec_WriteOk_q p.1.1 p.1.2.1 p.1.2.2.1, spec_WriteOk_y p.1.1 p.1.2.1 p.1.2.2.1, spec_WriteOk_l⟩
  cases hk

def G9 : Glob := G8.add 139 spec_WriteOk_g

theorem G9_ok : GlobOk Try.prog G9 := G8_ok.add ⟨Try.f139, Try.func139, by kernel_rfl, by kernel_rfl⟩ spec_WriteOk_c

/-! ### loop.example/g00327/spec.WritesOk -/

def spec_WritesOk_loops : Nat → Option LoopSpec
  | 0 => some ⟨[0, 2, 3], [], fun vals st k => onPats [.lst tWrite, .bool, .int .i64] [] vals st (fun p q => loopK spec_WritesOk_b0 Fuel (p.1, p.2.1, p.2.2.1) (Sum.elim (fun z => k .ret [.lst tWrite z.1, .bool z.2.1, .int .i64 z.2.2] []) (fun z => k (.exit 0) [.lst tWrite z.1, .bool z.2.1, .int .i64 z.2.2] [])))
      (none)⟩
  | 2000004 => some ⟨[0, 2, 4, 6, 9, 10, 12, 14, 16, 18, 20, 22, 24, 26, 28, 30, 32, 34, 36, 38, 40, 42, 44, 46], [], fun _ _ _ => none⟩
  | _ => none

def spec_WritesOk_v0 : ((List dWrite) × Bool × Int) → List AV := (fun x => [.lst tWrite x.1, .bool x.2.1, .int .i64 x.2.2])
def spec_WritesOk_s0 : ((List dWrite) × Bool × Int) → St := (fun x => [])
def spec_WritesOk_e0 : (((List dWrite) × Bool × Int) ⊕ ((List dWrite) × Bool × Int)) → Out × List AV × St := (Sum.elim (fun z => (.ret, [.lst tWrite z.1, .bool z.2.1, .int .i64 z.2.2], [])) (fun z => ((.exit 0), [.lst tWrite z.1, .bool z.2.1, .int .i64 z.2.2], [])))

theorem spec_WritesOk_bx0 (x : ((List dWrite) × Bool × Int)) : exec G9 ⟨0, 37, spec_WritesOk_loops⟩ (loopBody Try.f141 0) (bodyK ⟨0, 37, spec_WritesOk_loops⟩ [0, 2, 3] []) (setEs (deads 37) [0, 2, 3] (spec_WritesOk_v0 x)) (spec_WritesOk_s0 x) = spec_WritesOk_b0 x (Sum.elim (fun y => some ⟨.norm, spec_WritesOk_v0 y, spec_WritesOk_s0 y⟩) fun z => some ⟨(spec_WritesOk_e0 z).1, (spec_WritesOk_e0 z).2.1, (spec_WritesOk_e0 z).2.2⟩) := by
  kernel_rfl

theorem spec_WritesOk_lo0 : ∀ sp, (spec_WritesOk_loops 0) = some sp → LoopOk G9 ⟨0, 37, spec_WritesOk_loops⟩ sp (loopBody Try.f141 0) := by
  intro sp hsp vals st k r h
  cases hsp
  dsimp only at h
  rcases onPats_inv2 h with ⟨p, q, rfl, rfl, h⟩ | h
  · exact loop_runs2 spec_WritesOk_bp0 spec_WritesOk_v0 spec_WritesOk_s0 spec_WritesOk_e0 (fun z => by rcases z with z | z <;> (intro h; cases h)) spec_WritesOk_bx0 Fuel (p.1, p.2.1, p.2.2.1) _ k r (fun z => by rcases z with z | z <;> rfl) h
  cases h

theorem spec_WritesOk_x (a0 : (List dWrite)) : execFn G9 spec_WritesOk_loops Try.f141 [.lst tWrite a0] [] = spec_WritesOk_d a0 (fun (y : Bool) => some ⟨.ret, [.bool y], []⟩) := by kernel_rfl

theorem spec_WritesOk_y (a0 : (List dWrite)) : execFn G9 spec_WritesOk_loops Try.f141 [.lst tWrite a0] [] = spec_WritesOk_k a0 (fun (y : Bool) => some ⟨.ret, [.bool y], []⟩) := (spec_WritesOk_x a0).trans (by rw [spec_WritesOk_e])

theorem spec_WritesOk_l : LoopsOk G9 ⟨0, 37, spec_WritesOk_loops⟩ (Try.f141.body.getD .skip) :=
  loopsOk_of (ids := [0]) (by kernel_rfl) (by kernel_rfl) ⟨spec_WritesOk_lo0, trivial⟩

theorem spec_WritesOk_c : Contract Try.prog 141 spec_WritesOk_g := by
  refine told G9_ok follows Try.func141 (c := Try.f141.body.getD .skip) (by kernel_rfl) ?_
  intro args s k r hk
  unfold spec_WritesOk_g at hk
  rcases onPats_inv hk with ⟨p, q, rfl, rfl⟩ | hk
  · exact ⟨spec_WritesOk_loops, spec_WritesOk_q p.1, spec_WritesOk_y p.1, spec_WritesOk_l⟩
  cases hk

def G10 : Glob := G9.add 141 spec_WritesOk_g

theorem G10_ok : GlobOk Try.prog G10 := G9_ok.add ⟨Try.f141, Try.func141, by kernel_rfl, by kernel_rfl⟩ spec_WritesOk_c

/-! ### loop.example/g00327/spec.RangeOk -/

def spec_RangeOk_loops : Nat → Option LoopSpec
  | _ => none

theorem spec_RangeOk_x (a0 : ByteArray) (a1 : ByteArray) : execFn G10 spec_RangeOk_loops Try.f128 [.agg [.str a0, .str a1]] [] = spec_RangeOk_d (a0, a1) (fun (y : Bool) => some ⟨.ret, [.bool y], []⟩) := by kernel_rfl

theorem spec_RangeOk_y (a0 : ByteArray) (a1 : ByteArray) : execFn G10 spec_RangeOk_loops Try.f128 [.agg [.str a0, .str a1]] [] = spec_RangeOk_k (a0, a1) (fun (y : Bool) => some ⟨.ret, [.bool y], []⟩) := (spec_RangeOk_x a0 a1).trans (by rw [spec_RangeOk_e])

theorem spec_RangeOk_l : LoopsOk G10 ⟨0, 18, spec_RangeOk_loops⟩ (Try.f128.body.getD .skip) :=
  loopsOk_of (ids := []) (by kernel_rfl) (by kernel_rfl) trivial

theorem spec_RangeOk_c : Contract Try.prog 128 spec_RangeOk_g := by
  refine told G10_ok follows Try.func128 (c := Try.f128.body.getD .skip) (by kernel_rfl) ?_
  intro args s k r hk
  unfold spec_RangeOk_g at hk
  rcases onPats_inv hk with ⟨p, q, rfl, rfl⟩ | hk
  · exact ⟨spec_RangeOk_loops, spec_RangeOk_q p.1.1 p.1.2.1, spec_RangeOk_y p.1.1 p.1.2.1, spec_RangeOk_l⟩
  cases hk

def G11 : Glob := G10.add 128 spec_RangeOk_g

theorem G11_ok : GlobOk Try.prog G11 := G10_ok.add ⟨Try.f128, Try.func128, by kernel_rfl, by kernel_rfl⟩ spec_RangeOk_c

/-! ### loop.example/g00327/spec.TxnOk -/

def spec_TxnOk_loops : Nat → Option LoopSpec
  | 5000012 => some ⟨[1, 2], [], fun vals st k => onPats [.bp 0 0, .bool] [.box [.int .i64, .int .i64, .int .i64, .int .i64, .lst tRange, .lst tWrite, .bool, .str]] vals st (fun p q => spec_TxnOk_j5000012 (p.2.1, q.1.1, q.1.2.1, q.1.2.2.1, q.1.2.2.2.1, q.1.2.2.2.2.1, q.1.2.2.2.2.2.1, q.1.2.2.2.2.2.2.1, q.1.2.2.2.2.2.2.2.1) (fun z => k .ret [.bp 0 0, .bool z.1] [.box [.int .i64 z.2.1, .int .i64 z.2.2.1, .int .i64 z.2.2.2.1, .int .i64 z.2.2.2.2.1, .lst tRange z.2.2.2.2.2.1, .lst tWrite z.2.2.2.2.2.2.1, .bool z.2.2.2.2.2.2.2.1, .str z.2.2.2.2.2.2.2.2]]))
      (none)⟩
  | 5000010 => some ⟨[1, 2], [], fun vals st k => onPats [.bp 0 0, .bool] [.box [.int .i64, .int .i64, .int .i64, .int .i64, .lst tRange, .lst tWrite, .bool, .str]] vals st (fun p q => spec_TxnOk_j5000010 (p.2.1, q.1.1, q.1.2.1, q.1.2.2.1, q.1.2.2.2.1, q.1.2.2.2.2.1, q.1.2.2.2.2.2.1, q.1.2.2.2.2.2.2.1, q.1.2.2.2.2.2.2.2.1) (fun z => k .ret [.bp 0 0, .bool z.1] [.box [.int .i64 z.2.1, .int .i64 z.2.2.1, .int .i64 z.2.2.2.1, .int .i64 z.2.2.2.2.1, .lst tRange z.2.2.2.2.2.1, .lst tWrite z.2.2.2.2.2.2.1, .bool z.2.2.2.2.2.2.2.1, .str z.2.2.2.2.2.2.2.2]]))
      (none)⟩
  | 0 => some ⟨[1, 2, 3], [], fun vals st k => onPats [.bp 0 0, .bool, .int .i64] [.box [.int .i64, .int .i64, .int .i64, .int .i64, .lst tRange, .lst tWrite, .bool, .str]] vals st (fun p q => loopK spec_TxnOk_b0 Fuel (p.2.1, p.2.2.1, q.1.1, q.1.2.1, q.1.2.2.1, q.1.2.2.2.1, q.1.2.2.2.2.1, q.1.2.2.2.2.2.1, q.1.2.2.2.2.2.2.1, q.1.2.2.2.2.2.2.2.1) (Sum.elim (fun z => k .ret [.bp 0 0, .bool z.1, .int .i64 z.2.1] [.box [.int .i64 z.2.2.1, .int .i64 z.2.2.2.1, .int .i64 z.2.2.2.2.1, .int .i64 z.2.2.2.2.2.1, .lst tRange z.2.2.2.2.2.2.1, .lst tWrite z.2.2.2.2.2.2.2.1, .bool z.2.2.2.2.2.2.2.2.1, .str z.2.2.2.2.2.2.2.2.2]]) (fun z => k (.exit 0) [.bp 0 0, .bool z.1, .int .i64 z.2.1] [.box [.int .i64 z.2.2.1, .int .i64 z.2.2.2.1, .int .i64 z.2.2.2.2.1, .int .i64 z.2.2.2.2.2.1, .lst tRange z.2.2.2.2.2.2.1, .lst tWrite z.2.2.2.2.2.2.2.1, .bool z.2.2.2.2.2.2.2.2.1, .str z.2.2.2.2.2.2.2.2.2]])))
      (none)⟩
  | 5000003 => some ⟨[1, 2], [], fun vals st k => onPats [.bp 0 0, .bool] [.box [.int .i64, .int .i64, .int .i64, .int .i64, .lst tRange, .lst tWrite, .bool, .str]] vals st (fun p q => spec_TxnOk_j5000003 (p.2.1, q.1.1, q.1.2.1, q.1.2.2.1, q.1.2.2.2.1, q.1.2.2.2.2.1, q.1.2.2.2.2.2.1, q.1.2.2.2.2.2.2.1, q.1.2.2.2.2.2.2.2.1) (fun z => k .ret [.bp 0 0, .bool z.1] [.box [.int .i64 z.2.1, .int .i64 z.2.2.1, .int .i64 z.2.2.2.1, .int .i64 z.2.2.2.2.1, .lst tRange z.2.2.2.2.2.1, .lst tWrite z.2.2.2.2.2.2.1, .bool z.2.2.2.2.2.2.2.1, .str z.2.2.2.2.2.2.2.2]]))
      (none)⟩
  | _ => none

def spec_TxnOk_jv5000012 : (Bool × Int × Int × Int × Int × (List dRange) × (List dWrite) × Bool × ByteArray) → List AV := (fun x => [.bp 0 0, .bool x.1])
def spec_TxnOk_js5000012 : (Bool × Int × Int × Int × Int × (List dRange) × (List dWrite) × Bool × ByteArray) → St := (fun x => [.box [.int .i64 x.2.1, .int .i64 x.2.2.1, .int .i64 x.2.2.2.1, .int .i64 x.2.2.2.2.1, .lst tRange x.2.2.2.2.2.1, .lst tWrite x.2.2.2.2.2.2.1, .bool x.2.2.2.2.2.2.2.1, .str x.2.2.2.2.2.2.2.2]])
def spec_TxnOk_je5000012 : (Bool × Int × Int × Int × Int × (List dRange) × (List dWrite) × Bool × ByteArray) → Out × List AV × St := (fun z => (.ret, [.bp 0 0, .bool z.1], [.box [.int .i64 z.2.1, .int .i64 z.2.2.1, .int .i64 z.2.2.2.1, .int .i64 z.2.2.2.2.1, .lst tRange z.2.2.2.2.2.1, .lst tWrite z.2.2.2.2.2.2.1, .bool z.2.2.2.2.2.2.2.1, .str z.2.2.2.2.2.2.2.2]]))

theorem spec_TxnOk_jx5000012 (x : (Bool × Int × Int × Int × Int × (List dRange) × (List dWrite) × Bool × ByteArray)) : exec G11 ⟨0, 95, spec_TxnOk_loops⟩ (loopBody Try.f85 5000012) (bodyK ⟨0, 95, spec_TxnOk_loops⟩ [1, 2] []) (setEs (deads 95) [1, 2] (spec_TxnOk_jv5000012 x)) (spec_TxnOk_js5000012 x) = spec_TxnOk_j5000012 x (fun z => some ⟨(spec_TxnOk_je5000012 z).1, (spec_TxnOk_je5000012 z).2.1, (spec_TxnOk_je5000012 z).2.2⟩) := by
  kernel_rfl

theorem spec_TxnOk_lo5000012 : ∀ sp, (spec_TxnOk_loops 5000012) = some sp → CutOk G11 ⟨0, 95, spec_TxnOk_loops⟩ sp (loopBody Try.f85 5000012) := by
  intro sp hsp vals st k r h
  cases hsp
  dsimp only at h
  rcases onPats_inv2 h with ⟨p, q, rfl, rfl, h⟩ | h
  · exact cut_runs spec_TxnOk_jp5000012 spec_TxnOk_jv5000012 spec_TxnOk_js5000012 spec_TxnOk_je5000012 spec_TxnOk_jx5000012 (p.2.1, q.1.1, q.1.2.1, q.1.2.2.1, q.1.2.2.2.1, q.1.2.2.2.2.1, q.1.2.2.2.2.2.1, q.1.2.2.2.2.2.2.1, q.1.2.2.2.2.2.2.2.1) _ k r (fun z => rfl) h
  cases h

def spec_TxnOk_jv5000010 : (Bool × Int × Int × Int × Int × (List dRange) × (List dWrite) × Bool × ByteArray) → List AV := (fun x => [.bp 0 0, .bool x.1])
def spec_TxnOk_js5000010 : (Bool × Int × Int × Int × Int × (List dRange) × (List dWrite) × Bool × ByteArray) → St := (fun x => [.box [.int .i64 x.2.1, .int .i64 x.2.2.1, .int .i64 x.2.2.2.1, .int .i64 x.2.2.2.2.1, .lst tRange x.2.2.2.2.2.1, .lst tWrite x.2.2.2.2.2.2.1, .bool x.2.2.2.2.2.2.2.1, .str x.2.2.2.2.2.2.2.2]])
def spec_TxnOk_je5000010 : (Bool × Int × Int × Int × Int × (List dRange) × (List dWrite) × Bool × ByteArray) → Out × List AV × St := (fun z => (.ret, [.bp 0 0, .bool z.1], [.box [.int .i64 z.2.1, .int .i64 z.2.2.1, .int .i64 z.2.2.2.1, .int .i64 z.2.2.2.2.1, .lst tRange z.2.2.2.2.2.1, .lst tWrite z.2.2.2.2.2.2.1, .bool z.2.2.2.2.2.2.2.1, .str z.2.2.2.2.2.2.2.2]]))

theorem spec_TxnOk_jx5000010 (x : (Bool × Int × Int × Int × Int × (List dRange) × (List dWrite) × Bool × ByteArray)) : exec G11 ⟨0, 95, spec_TxnOk_loops⟩ (loopBody Try.f85 5000010) (bodyK ⟨0, 95, spec_TxnOk_loops⟩ [1, 2] []) (setEs (deads 95) [1, 2] (spec_TxnOk_jv5000010 x)) (spec_TxnOk_js5000010 x) = spec_TxnOk_j5000010 x (fun z => some ⟨(spec_TxnOk_je5000010 z).1, (spec_TxnOk_je5000010 z).2.1, (spec_TxnOk_je5000010 z).2.2⟩) := by
  kernel_rfl

theorem spec_TxnOk_lo5000010 : ∀ sp, (spec_TxnOk_loops 5000010) = some sp → CutOk G11 ⟨0, 95, spec_TxnOk_loops⟩ sp (loopBody Try.f85 5000010) := by
  intro sp hsp vals st k r h
  cases hsp
  dsimp only at h
  rcases onPats_inv2 h with ⟨p, q, rfl, rfl, h⟩ | h
  · exact cut_runs spec_TxnOk_jp5000010 spec_TxnOk_jv5000010 spec_TxnOk_js5000010 spec_TxnOk_je5000010 spec_TxnOk_jx5000010 (p.2.1, q.1.1, q.1.2.1, q.1.2.2.1, q.1.2.2.2.1, q.1.2.2.2.2.1, q.1.2.2.2.2.2.1, q.1.2.2.2.2.2.2.1, q.1.2.2.2.2.2.2.2.1) _ k r (fun z => rfl) h
  cases h

def spec_TxnOk_v0 : (Bool × Int × Int × Int × Int × Int × (List dRange) × (List dWrite) × Bool × ByteArray) → List AV := (fun x => [.bp 0 0, .bool x.1, .int .i64 x.2.1])
def spec_TxnOk_s0 : (Bool × Int × Int × Int × Int × Int × (List dRange) × (List dWrite) × Bool × ByteArray) → St := (fun x => [.box [.int .i64 x.2.2.1, .int .i64 x.2.2.2.1, .int .i64 x.2.2.2.2.1, .int .i64 x.2.2.2.2.2.1, .lst tRange x.2.2.2.2.2.2.1, .lst tWrite x.2.2.2.2.2.2.2.1, .bool x.2.2.2.2.2.2.2.2.1, .str x.2.2.2.2.2.2.2.2.2]])
def spec_TxnOk_e0 : ((Bool × Int × Int × Int × Int × Int × (List dRange) × (List dWrite) × Bool × ByteArray) ⊕ (Bool × Int × Int × Int × Int × Int × (List dRange) × (List dWrite) × Bool × ByteArray)) → Out × List AV × St := (Sum.elim (fun z => (.ret, [.bp 0 0, .bool z.1, .int .i64 z.2.1], [.box [.int .i64 z.2.2.1, .int .i64 z.2.2.2.1, .int .i64 z.2.2.2.2.1, .int .i64 z.2.2.2.2.2.1, .lst tRange z.2.2.2.2.2.2.1, .lst tWrite z.2.2.2.2.2.2.2.1, .bool z.2.2.2.2.2.2.2.2.1, .str z.2.2.2.2.2.2.2.2.2]])) (fun z => ((.exit 0), [.bp 0 0, .bool z.1, .int .i64 z.2.1], [.box [.int .i64 z.2.2.1, .int .i64 z.2.2.2.1, .int .i64 z.2.2.2.2.1, .int .i64 z.2.2.2.2.2.1, .lst tRange z.2.2.2.2.2.2.1, .lst tWrite z.2.2.2.2.2.2.2.1, .bool z.2.2.2.2.2.2.2.2.1, .str z.2.2.2.2.2.2.2.2.2]])))

theorem spec_TxnOk_bx0 (x : (Bool × Int × Int × Int × Int × Int × (List dRange) × (List dWrite) × Bool × ByteArray)) : exec G11 ⟨0, 95, spec_TxnOk_loops⟩ (loopBody Try.f85 0) (bodyK ⟨0, 95, spec_TxnOk_loops⟩ [1, 2, 3] []) (setEs (deads 95) [1, 2, 3] (spec_TxnOk_v0 x)) (spec_TxnOk_s0 x) = spec_TxnOk_b0 x (Sum.elim (fun y => some ⟨.norm, spec_TxnOk_v0 y, spec_TxnOk_s0 y⟩) fun z => some ⟨(spec_TxnOk_e0 z).1, (spec_TxnOk_e0 z).2.1, (spec_TxnOk_e0 z).2.2⟩) := by
  kernel_rfl

theorem spec_TxnOk_lo0 : ∀ sp, (spec_TxnOk_loops 0) = some sp → LoopOk G11 ⟨0, 95, spec_TxnOk_loops⟩ sp (loopBody Try.f85 0) := by
  intro sp hsp vals st k r h
  cases hsp
  dsimp only at h
  rcases onPats_inv2 h with ⟨p, q, rfl, rfl, h⟩ | h
  · exact loop_runs2 spec_TxnOk_bp0 spec_TxnOk_v0 spec_TxnOk_s0 spec_TxnOk_e0 (fun z => by rcases z with z | z <;> (intro h; cases h)) spec_TxnOk_bx0 Fuel (p.2.1, p.2.2.1, q.1.1, q.1.2.1, q.1.2.2.1, q.1.2.2.2.1, q.1.2.2.2.2.1, q.1.2.2.2.2.2.1, q.1.2.2.2.2.2.2.1, q.1.2.2.2.2.2.2.2.1) _ k r (fun z => by rcases z with z | z <;> rfl) h
  cases h

def spec_TxnOk_jv5000003 : (Bool × Int × Int × Int × Int × (List dRange) × (List dWrite) × Bool × ByteArray) → List AV := (fun x => [.bp 0 0, .bool x.1])
def spec_TxnOk_js5000003 : (Bool × Int × Int × Int × Int × (List dRange) × (List dWrite) × Bool × ByteArray) → St := (fun x => [.box [.int .i64 x.2.1, .int .i64 x.2.2.1, .int .i64 x.2.2.2.1, .int .i64 x.2.2.2.2.1, .lst tRange x.2.2.2.2.2.1, .lst tWrite x.2.2.2.2.2.2.1, .bool x.2.2.2.2.2.2.2.1, .str x.2.2.2.2.2.2.2.2]])
def spec_TxnOk_je5000003 : (Bool × Int × Int × Int × Int × (List dRange) × (List dWrite) × Bool × ByteArray) → Out × List AV × St := (fun z => (.ret, [.bp 0 0, .bool z.1], [.box [.int .i64 z.2.1, .int .i64 z.2.2.1, .int .i64 z.2.2.2.1, .int .i64 z.2.2.2.2.1, .lst tRange z.2.2.2.2.2.1, .lst tWrite z.2.2.2.2.2.2.1, .bool z.2.2.2.2.2.2.2.1, .str z.2.2.2.2.2.2.2.2]]))

theorem spec_TxnOk_jx5000003 (x : (Bool × Int × Int × Int × Int × (List dRange) × (List dWrite) × Bool × ByteArray)) : exec G11 ⟨0, 95, spec_TxnOk_loops⟩ (loopBody Try.f85 5000003) (bodyK ⟨0, 95, spec_TxnOk_loops⟩ [1, 2] []) (setEs (deads 95) [1, 2] (spec_TxnOk_jv5000003 x)) (spec_TxnOk_js5000003 x) = spec_TxnOk_j5000003 x (fun z => some ⟨(spec_TxnOk_je5000003 z).1, (spec_TxnOk_je5000003 z).2.1, (spec_TxnOk_je5000003 z).2.2⟩) := by
  kernel_rfl

theorem spec_TxnOk_lo5000003 : ∀ sp, (spec_TxnOk_loops 5000003) = some sp → CutOk G11 ⟨0, 95, spec_TxnOk_loops⟩ sp (loopBody Try.f85 5000003) := by
  intro sp hsp vals st k r h
  cases hsp
  dsimp only at h
  rcases onPats_inv2 h with ⟨p, q, rfl, rfl, h⟩ | h
  · exact cut_runs spec_TxnOk_jp5000003 spec_TxnOk_jv5000003 spec_TxnOk_js5000003 spec_TxnOk_je5000003 spec_TxnOk_jx5000003 (p.2.1, q.1.1, q.1.2.1, q.1.2.2.1, q.1.2.2.2.1, q.1.2.2.2.2.1, q.1.2.2.2.2.2.1, q.1.2.2.2.2.2.2.1, q.1.2.2.2.2.2.2.2.1) _ k r (fun z => rfl) h
  cases h

theorem spec_TxnOk_x (a0 : Int) (a1 : Int) (a2 : Int) (a3 : Int) (a4 : (List dRange)) (a5 : (List dWrite)) (a6 : Bool) (a7 : ByteArray) : execFn G11 spec_TxnOk_loops Try.f85 [.agg [.int .i64 a0, .int .i64 a1, .int .i64 a2, .int .i64 a3, .lst tRange a4, .lst tWrite a5, .bool a6, .str a7]] [] = spec_TxnOk_d (a0, (a1, (a2, (a3, (a4, (a5, (a6, a7))))))) (fun (y : Bool) => some ⟨.ret, [.bool y], []⟩) := by kernel_rfl

theorem spec_TxnOk_y (a0 : Int) (a1 : Int) (a2 : Int) (a3 : Int) (a4 : (List dRange)) (a5 : (List dWrite)) (a6 : Bool) (a7 : ByteArray) : execFn G11 spec_TxnOk_loops Try.f85 [.agg [.int .i64 a0, .int .i64 a1, .int .i64 a2, .int .i64 a3, .lst tRange a4, .lst tWrite a5, .bool a6, .str a7]] [] = spec_TxnOk_k (a0, (a1, (a2, (a3, (a4, (a5, (a6, a7))))))) (fun (y : Bool) => some ⟨.ret, [.bool y], []⟩) := (spec_TxnOk_x a0 a1 a2 a3 a4 a5 a6 a7).trans (by rw [spec_TxnOk_e])

theorem spec_TxnOk_l : LoopsOk G11 ⟨0, 95, spec_TxnOk_loops⟩ (Try.f85.body.getD .skip) :=
  loopsOk_of (ids := [5000012, 5000010, 0, 5000003]) (by kernel_rfl) (by kernel_rfl) ⟨spec_TxnOk_lo5000012, ⟨spec_TxnOk_lo5000010, ⟨spec_TxnOk_lo0, ⟨spec_TxnOk_lo5000003, trivial⟩⟩⟩⟩

theorem spec_TxnOk_c : Contract Try.prog 85 spec_TxnOk_g := by
  refine told G11_ok follows Try.func85 (c := Try.f85.body.getD .skip) (by kernel_rfl) ?_
  intro args s k r hk
  unfold spec_TxnOk_g at hk
  rcases onPats_inv hk with ⟨p, q, rfl, rfl⟩ | hk
  · exact ⟨spec_TxnOk_loops, spec_TxnOk_q p.1.1 p.1.2.1 p.1.2.2.1 p.1.2.2.2.1 p.1.2.2.2.2.1 p.1.2.2.2.2.2.1 p.1.2.2.2.2.2.2.1 p.1.2.2.2.2.2.2.2.1, spec_TxnOk_y p.1.1 p.1.2.1 p.1.2.2.1 p.1.2.2.2.1 p.1.2.2.2.2.1 p.1.2.2.2.2.2.1 p.1.2.2.2.2.2.2.1 p.1.2.2.2.2.2.2.2.1, spec_TxnOk_l⟩
  cases hk

def G12 : Glob := G11.add 85 spec_TxnOk_g

theorem G12_ok : GlobOk Try.prog G12 := G11_ok.add ⟨Try.f85, Try.func85, by kernel_rfl, by kernel_rfl⟩ spec_TxnOk_c

/-! ### loop.example/g00327/spec.ReadTxn -/

def spec_ReadTxn_loops : Nat → Option LoopSpec
  | 5000025 => some ⟨[4, 5, 6, 7, 8], [none, none, none, none, none, none, none, none, none, some tRange, some tWrite, none, none, none, none, none, none, none, none, none, some tRange], fun vals st k => onPats [.bp 0 0, .dead, .dead, .bp 1 0, .bp 2 0] [.box [.int .i64, .int .i64, .int .i64, .int .i64, .own 3, .own 4, .bool, .str], .box [.str, .int .i64, .bool], .box [.int .i64, .int .i64, .int .i64, .int .i64, .own 5, .own 6, .bool, .str], .arr tRange, .arr tWrite, .arr tRange, .arr tWrite] vals st (fun p q => spec_ReadTxn_j5000025 (q.1.1, q.1.2.1, q.1.2.2.1, q.1.2.2.2.1, q.1.2.2.2.2.2.2.1, q.1.2.2.2.2.2.2.2.1, q.2.1.1, q.2.1.2.1, q.2.1.2.2.1, q.2.2.1.1, q.2.2.1.2.1, q.2.2.1.2.2.1, q.2.2.1.2.2.2.1, q.2.2.1.2.2.2.2.2.2.1, q.2.2.1.2.2.2.2.2.2.2.1, q.2.2.2.1, q.2.2.2.2.1, q.2.2.2.2.2.1, q.2.2.2.2.2.2.1) (fun z => k .ret [.bp 0 0, .int .i64 z.1, .bool z.2.1, .bp 1 0, .bp 2 0] [.box [.int .i64 z.2.2.1, .int .i64 z.2.2.2.1, .int .i64 z.2.2.2.2.1, .int .i64 z.2.2.2.2.2.1, .own 3, .own 4, .bool z.2.2.2.2.2.2.1, .str z.2.2.2.2.2.2.2.1], .box [.str z.2.2.2.2.2.2.2.2.1, .int .i64 z.2.2.2.2.2.2.2.2.2.1, .bool z.2.2.2.2.2.2.2.2.2.2.1], .box [.int .i64 z.2.2.2.2.2.2.2.2.2.2.2.1, .int .i64 z.2.2.2.2.2.2.2.2.2.2.2.2.1, .int .i64 z.2.2.2.2.2.2.2.2.2.2.2.2.2.1, .int .i64 z.2.2.2.2.2.2.2.2.2.2.2.2.2.2.1, .own 3, .own 4, .bool z.2.2.2.2.2.2.2.2.2.2.2.2.2.2.2.1, .str z.2.2.2.2.2.2.2.2.2.2.2.2.2.2.2.2.1], .arr tRange z.2.2.2.2.2.2.2.2.2.2.2.2.2.2.2.2.2.1, .arr tWrite z.2.2.2.2.2.2.2.2.2.2.2.2.2.2.2.2.2.2]))
      (none)⟩
  | 6000001 => some ⟨[4, 7, 8, 9, 10], [none, none, none, none, none, none, none, none, none, none, none, none, none, none, none, none, none, none, none, none, some tRange], fun vals st k => onPats [.bp 0 0, .bp 1 0, .bp 2 0, .int .i64, .int .i64] [.box [.int .i64, .int .i64, .int .i64, .int .i64, .nilS, .nilS, .bool, .str], .box [.str, .int .i64, .bool], .box [.int .i64, .int .i64, .int .i64, .int .i64, .own 3, .nilS, .bool, .str], .arr tRange] vals st (fun p q => spec_ReadTxn_j6000001 (p.2.2.2.1, p.2.2.2.2.1, q.1.1, q.1.2.1, q.1.2.2.1, q.1.2.2.2.1, q.1.2.2.2.2.2.2.1, q.1.2.2.2.2.2.2.2.1, q.2.1.1, q.2.1.2.1, q.2.1.2.2.1, q.2.2.1.1, q.2.2.1.2.1, q.2.2.1.2.2.1, q.2.2.1.2.2.2.1, q.2.2.1.2.2.2.2.2.2.1, q.2.2.1.2.2.2.2.2.2.2.1, q.2.2.2.1) (fun z => k .norm [.bp 0 0, .bp 1 0, .bp 2 0, .int .i64 z.1, .int .i64 z.2.1] [.box [.int .i64 z.2.2.1, .int .i64 z.2.2.2.1, .int .i64 z.2.2.2.2.1, .int .i64 z.2.2.2.2.2.1, .nilS, .nilS, .bool z.2.2.2.2.2.2.1, .str z.2.2.2.2.2.2.2.1], .box [.str z.2.2.2.2.2.2.2.2.1, .int .i64 z.2.2.2.2.2.2.2.2.2.1, .bool z.2.2.2.2.2.2.2.2.2.2.1], .box [.int .i64 z.2.2.2.2.2.2.2.2.2.2.2.1, .int .i64 z.2.2.2.2.2.2.2.2.2.2.2.2.1, .int .i64 z.2.2.2.2.2.2.2.2.2.2.2.2.2.1, .int .i64 z.2.2.2.2.2.2.2.2.2.2.2.2.2.2.1, .own 3, .nilS, .bool z.2.2.2.2.2.2.2.2.2.2.2.2.2.2.2.1, .str z.2.2.2.2.2.2.2.2.2.2.2.2.2.2.2.2.1], .arr tRange z.2.2.2.2.2.2.2.2.2.2.2.2.2.2.2.2.2]))
      (none)⟩
  | 0 => some ⟨[4, 7, 8, 9, 10], [none, none, none, none, none, none, none, none, none, none, none, none, none, none, none, none, none, none, none, none, some tRange], fun vals st k => onPats [.bp 0 0, .bp 1 0, .bp 2 0, .int .i64, .int .i64] [.box [.int .i64, .int .i64, .int .i64, .int .i64, .nilS, .nilS, .bool, .str], .box [.str, .int .i64, .bool], .box [.int .i64, .int .i64, .int .i64, .int .i64, .own 3, .nilS, .bool, .str], .arr tRange] vals st (fun p q => loopK spec_ReadTxn_b0 Fuel (p.2.2.2.1, p.2.2.2.2.1, q.1.1, q.1.2.1, q.1.2.2.1, q.1.2.2.2.1, q.1.2.2.2.2.2.2.1, q.1.2.2.2.2.2.2.2.1, q.2.1.1, q.2.1.2.1, q.2.1.2.2.1, q.2.2.1.1, q.2.2.1.2.1, q.2.2.1.2.2.1, q.2.2.1.2.2.2.1, q.2.2.1.2.2.2.2.2.2.1, q.2.2.1.2.2.2.2.2.2.2.1, q.2.2.2.1) (fun z => k (.exit 0) [.bp 0 0, .bp 1 0, .bp 2 0, .int .i64 z.1, .int .i64 z.2.1] [.box [.int .i64 z.2.2.1, .int .i64 z.2.2.2.1, .int .i64 z.2.2.2.2.1, .int .i64 z.2.2.2.2.2.1, .nilS, .nilS, .bool z.2.2.2.2.2.2.1, .str z.2.2.2.2.2.2.2.1], .box [.str z.2.2.2.2.2.2.2.2.1, .int .i64 z.2.2.2.2.2.2.2.2.2.1, .bool z.2.2.2.2.2.2.2.2.2.2.1], .box [.int .i64 z.2.2.2.2.2.2.2.2.2.2.2.1, .int .i64 z.2.2.2.2.2.2.2.2.2.2.2.2.1, .int .i64 z.2.2.2.2.2.2.2.2.2.2.2.2.2.1, .int .i64 z.2.2.2.2.2.2.2.2.2.2.2.2.2.2.1, .own 3, .nilS, .bool z.2.2.2.2.2.2.2.2.2.2.2.2.2.2.2.1, .str z.2.2.2.2.2.2.2.2.2.2.2.2.2.2.2.2.1], .arr tRange z.2.2.2.2.2.2.2.2.2.2.2.2.2.2.2.2.2]))
      (none)⟩
  | 6000003 => some ⟨[4, 7, 8, 12, 13], [none, none, none, none, none, none, none, none, none, none, none, none, none, none, none, none, none, none, none, none, some tRange, some tWrite], fun vals st k => onPats [.bp 0 0, .bp 1 0, .bp 2 0, .int .i64, .int .i64] [.box [.int .i64, .int .i64, .int .i64, .int .i64, .nilS, .nilS, .bool, .str], .box [.str, .int .i64, .bool], .box [.int .i64, .int .i64, .int .i64, .int .i64, .own 3, .own 4, .bool, .str], .arr tRange, .arr tWrite] vals st (fun p q => spec_ReadTxn_j6000003 (p.2.2.2.1, p.2.2.2.2.1, q.1.1, q.1.2.1, q.1.2.2.1, q.1.2.2.2.1, q.1.2.2.2.2.2.2.1, q.1.2.2.2.2.2.2.2.1, q.2.1.1, q.2.1.2.1, q.2.1.2.2.1, q.2.2.1.1, q.2.2.1.2.1, q.2.2.1.2.2.1, q.2.2.1.2.2.2.1, q.2.2.1.2.2.2.2.2.2.1, q.2.2.1.2.2.2.2.2.2.2.1, q.2.2.2.1, q.2.2.2.2.1) (fun z => k .norm [.bp 0 0, .bp 1 0, .bp 2 0, .int .i64 z.1, .int .i64 z.2.1] [.box [.int .i64 z.2.2.1, .int .i64 z.2.2.2.1, .int .i64 z.2.2.2.2.1, .int .i64 z.2.2.2.2.2.1, .nilS, .nilS, .bool z.2.2.2.2.2.2.1, .str z.2.2.2.2.2.2.2.1], .box [.str z.2.2.2.2.2.2.2.2.1, .int .i64 z.2.2.2.2.2.2.2.2.2.1, .bool z.2.2.2.2.2.2.2.2.2.2.1], .box [.int .i64 z.2.2.2.2.2.2.2.2.2.2.2.1, .int .i64 z.2.2.2.2.2.2.2.2.2.2.2.2.1, .int .i64 z.2.2.2.2.2.2.2.2.2.2.2.2.2.1, .int .i64 z.2.2.2.2.2.2.2.2.2.2.2.2.2.2.1, .own 3, .own 4, .bool z.2.2.2.2.2.2.2.2.2.2.2.2.2.2.2.1, .str z.2.2.2.2.2.2.2.2.2.2.2.2.2.2.2.2.1], .arr tRange z.2.2.2.2.2.2.2.2.2.2.2.2.2.2.2.2.2.1, .arr tWrite z.2.2.2.2.2.2.2.2.2.2.2.2.2.2.2.2.2.2]))
      (none)⟩
  | 2 => some ⟨[4, 7, 8, 12, 13], [none, none, none, none, none, none, none, none, none, none, none, none, none, none, none, none, none, none, none, none, some tRange, some tWrite], fun vals st k => onPats [.bp 0 0, .bp 1 0, .bp 2 0, .int .i64, .int .i64] [.box [.int .i64, .int .i64, .int .i64, .int .i64, .nilS, .nilS, .bool, .str], .box [.str, .int .i64, .bool], .box [.int .i64, .int .i64, .int .i64, .int .i64, .own 3, .own 4, .bool, .str], .arr tRange, .arr tWrite] vals st (fun p q => loopK spec_ReadTxn_b2 Fuel (p.2.2.2.1, p.2.2.2.2.1, q.1.1, q.1.2.1, q.1.2.2.1, q.1.2.2.2.1, q.1.2.2.2.2.2.2.1, q.1.2.2.2.2.2.2.2.1, q.2.1.1, q.2.1.2.1, q.2.1.2.2.1, q.2.2.1.1, q.2.2.1.2.1, q.2.2.1.2.2.1, q.2.2.1.2.2.2.1, q.2.2.1.2.2.2.2.2.2.1, q.2.2.1.2.2.2.2.2.2.2.1, q.2.2.2.1, q.2.2.2.2.1) (fun z => k (.exit 2) [.bp 0 0, .bp 1 0, .bp 2 0, .int .i64 z.1, .int .i64 z.2.1] [.box [.int .i64 z.2.2.1, .int .i64 z.2.2.2.1, .int .i64 z.2.2.2.2.1, .int .i64 z.2.2.2.2.2.1, .nilS, .nilS, .bool z.2.2.2.2.2.2.1, .str z.2.2.2.2.2.2.2.1], .box [.str z.2.2.2.2.2.2.2.2.1, .int .i64 z.2.2.2.2.2.2.2.2.2.1, .bool z.2.2.2.2.2.2.2.2.2.2.1], .box [.int .i64 z.2.2.2.2.2.2.2.2.2.2.2.1, .int .i64 z.2.2.2.2.2.2.2.2.2.2.2.2.1, .int .i64 z.2.2.2.2.2.2.2.2.2.2.2.2.2.1, .int .i64 z.2.2.2.2.2.2.2.2.2.2.2.2.2.2.1, .own 3, .own 4, .bool z.2.2.2.2.2.2.2.2.2.2.2.2.2.2.2.1, .str z.2.2.2.2.2.2.2.2.2.2.2.2.2.2.2.2.1], .arr tRange z.2.2.2.2.2.2.2.2.2.2.2.2.2.2.2.2.2.1, .arr tWrite z.2.2.2.2.2.2.2.2.2.2.2.2.2.2.2.2.2.2]))
      (none)⟩
  | 1000025 => some ⟨[0], [], fun _ _ _ => none⟩
  | 3000000 => some ⟨[], [none, none, none, none, some tRange, some tWrite], fun _ _ _ => none⟩
  | _ => none

def spec_ReadTxn_jv5000025 : (Int × Int × Int × Int × Bool × ByteArray × ByteArray × Int × Bool × Int × Int × Int × Int × Bool × ByteArray × (List dRange) × (List dWrite) × (List dRange) × (List dWrite)) → List AV := (fun x => [.bp 0 0, .dead, .dead, .bp 1 0, .bp 2 0])
def spec_ReadTxn_js5000025 : (Int × Int × Int × Int × Bool × ByteArray × ByteArray × Int × Bool × Int × Int × Int × Int × Bool × ByteArray × (List dRange) × (List dWrite) × (List dRange) × (List dWrite)) → St := (fun x => [.box [.int .i64 x.1, .int .i64 x.2.1, .int .i64 x.2.2.1, .int .i64 x.2.2.2.1, .own 3, .own 4, .bool x.2.2.2.2.1, .str x.2.2.2.2.2.1], .box [.str x.2.2.2.2.2.2.1, .int .i64 x.2.2.2.2.2.2.2.1, .bool x.2.2.2.2.2.2.2.2.1], .box [.int .i64 x.2.2.2.2.2.2.2.2.2.1, .int .i64 x.2.2.2.2.2.2.2.2.2.2.1, .int .i64 x.2.2.2.2.2.2.2.2.2.2.2.1, .int .i64 x.2.2.2.2.2.2.2.2.2.2.2.2.1, .own 5, .own 6, .bool x.2.2.2.2.2.2.2.2.2.2.2.2.2.1, .str x.2.2.2.2.2.2.2.2.2.2.2.2.2.2.1], .arr tRange x.2.2.2.2.2.2.2.2.2.2.2.2.2.2.2.1, .arr tWrite x.2.2.2.2.2.2.2.2.2.2.2.2.2.2.2.2.1, .arr tRange x.2.2.2.2.2.2.2.2.2.2.2.2.2.2.2.2.2.1, .arr tWrite x.2.2.2.2.2.2.2.2.2.2.2.2.2.2.2.2.2.2])
def spec_ReadTxn_je5000025 : (Int × Bool × Int × Int × Int × Int × Bool × ByteArray × ByteArray × Int × Bool × Int × Int × Int × Int × Bool × ByteArray × (List dRange) × (List dWrite)) → Out × List AV × St := (fun z => (.ret, [.bp 0 0, .int .i64 z.1, .bool z.2.1, .bp 1 0, .bp 2 0], [.box [.int .i64 z.2.2.1, .int .i64 z.2.2.2.1, .int .i64 z.2.2.2.2.1, .int .i64 z.2.2.2.2.2.1, .own 3, .own 4, .bool z.2.2.2.2.2.2.1, .str z.2.2.2.2.2.2.2.1], .box [.str z.2.2.2.2.2.2.2.2.1, .int .i64 z.2.2.2.2.2.2.2.2.2.1, .bool z.2.2.2.2.2.2.2.2.2.2.1], .box [.int .i64 z.2.2.2.2.2.2.2.2.2.2.2.1, .int .i64 z.2.2.2.2.2.2.2.2.2.2.2.2.1, .int .i64 z.2.2.2.2.2.2.2.2.2.2.2.2.2.1, .int .i64 z.2.2.2.2.2.2.2.2.2.2.2.2.2.2.1, .own 3, .own 4, .bool z.2.2.2.2.2.2.2.2.2.2.2.2.2.2.2.1, .str z.2.2.2.2.2.2.2.2.2.2.2.2.2.2.2.2.1], .arr tRange z.2.2.2.2.2.2.2.2.2.2.2.2.2.2.2.2.2.1, .arr tWrite z.2.2.2.2.2.2.2.2.2.2.2.2.2.2.2.2.2.2]))

theorem spec_ReadTxn_jx5000025 (x : (Int × Int × Int × Int × Bool × ByteArray × ByteArray × Int × Bool × Int × Int × Int × Int × Bool × ByteArray × (List dRange) × (List dWrite) × (List dRange) × (List dWrite))) : exec G12 ⟨0, 115, spec_ReadTxn_loops⟩ (loopBody Try.f60 5000025) (bodyK ⟨0, 115, spec_ReadTxn_loops⟩ [4, 5, 6, 7, 8] [none, none, none, none, none, none, none, none, none, some tRange, some tWrite, none, none, none, none, none, none, none, none, none, some tRange]) (setEs (deads 115) [4, 5, 6, 7, 8] (spec_ReadTxn_jv5000025 x)) (spec_ReadTxn_js5000025 x) = spec_ReadTxn_j5000025 x (fun z => some ⟨(spec_ReadTxn_je5000025 z).1, (spec_ReadTxn_je5000025 z).2.1, (spec_ReadTxn_je5000025 z).2.2⟩) := by
  kernel_rfl

theorem spec_ReadTxn_lo5000025 : ∀ sp, (spec_ReadTxn_loops 5000025) = some sp → CutOk G12 ⟨0, 115, spec_ReadTxn_loops⟩ sp (loopBody Try.f60 5000025) := by
  intro sp hsp vals st k r h
  cases hsp
  dsimp only at h
  rcases onPats_inv2 h with ⟨p, q, rfl, rfl, h⟩ | h
  · exact cut_runs spec_ReadTxn_jp5000025 spec_ReadTxn_jv5000025 spec_ReadTxn_js5000025 spec_ReadTxn_je5000025 spec_ReadTxn_jx5000025 (q.1.1, q.1.2.1, q.1.2.2.1, q.1.2.2.2.1, q.1.2.2.2.2.2.2.1, q.1.2.2.2.2.2.2.2.1, q.2.1.1, q.2.1.2.1, q.2.1.2.2.1, q.2.2.1.1, q.2.2.1.2.1, q.2.2.1.2.2.1, q.2.2.1.2.2.2.1, q.2.2.1.2.2.2.2.2.2.1, q.2.2.1.2.2.2.2.2.2.2.1, q.2.2.2.1, q.2.2.2.2.1, q.2.2.2.2.2.1, q.2.2.2.2.2.2.1) _ k r (fun z => rfl) h
  cases h

def spec_ReadTxn_jv6000001 : (Int × Int × Int × Int × Int × Int × Bool × ByteArray × ByteArray × Int × Bool × Int × Int × Int × Int × Bool × ByteArray × (List dRange)) → List AV := (fun x => [.bp 0 0, .bp 1 0, .bp 2 0, .int .i64 x.1, .int .i64 x.2.1])
def spec_ReadTxn_js6000001 : (Int × Int × Int × Int × Int × Int × Bool × ByteArray × ByteArray × Int × Bool × Int × Int × Int × Int × Bool × ByteArray × (List dRange)) → St := (fun x => [.box [.int .i64 x.2.2.1, .int .i64 x.2.2.2.1, .int .i64 x.2.2.2.2.1, .int .i64 x.2.2.2.2.2.1, .nilS, .nilS, .bool x.2.2.2.2.2.2.1, .str x.2.2.2.2.2.2.2.1], .box [.str x.2.2.2.2.2.2.2.2.1, .int .i64 x.2.2.2.2.2.2.2.2.2.1, .bool x.2.2.2.2.2.2.2.2.2.2.1], .box [.int .i64 x.2.2.2.2.2.2.2.2.2.2.2.1, .int .i64 x.2.2.2.2.2.2.2.2.2.2.2.2.1, .int .i64 x.2.2.2.2.2.2.2.2.2.2.2.2.2.1, .int .i64 x.2.2.2.2.2.2.2.2.2.2.2.2.2.2.1, .own 3, .nilS, .bool x.2.2.2.2.2.2.2.2.2.2.2.2.2.2.2.1, .str x.2.2.2.2.2.2.2.2.2.2.2.2.2.2.2.2.1], .arr tRange x.2.2.2.2.2.2.2.2.2.2.2.2.2.2.2.2.2])
def spec_ReadTxn_je6000001 : (Int × Int × Int × Int × Int × Int × Bool × ByteArray × ByteArray × Int × Bool × Int × Int × Int × Int × Bool × ByteArray × (List dRange)) → Out × List AV × St := (fun z => (.norm, [.bp 0 0, .bp 1 0, .bp 2 0, .int .i64 z.1, .int .i64 z.2.1], [.box [.int .i64 z.2.2.1, .int .i64 z.2.2.2.1, .int .i64 z.2.2.2.2.1, .int .i64 z.2.2.2.2.2.1, .nilS, .nilS, .bool z.2.2.2.2.2.2.1, .str z.2.2.2.2.2.2.2.1], .box [.str z.2.2.2.2.2.2.2.2.1, .int .i64 z.2.2.2.2.2.2.2.2.2.1, .bool z.2.2.2.2.2.2.2.2.2.2.1], .box [.int .i64 z.2.2.2.2.2.2.2.2.2.2.2.1, .int .i64 z.2.2.2.2.2.2.2.2.2.2.2.2.1, .int .i64 z.2.2.2.2.2.2.2.2.2.2.2.2.2.1, .int .i64 z.2.2.2.2.2.2.2.2.2.2.2.2.2.2.1, .own 3, .nilS, .bool z.2.2.2.2.2.2.2.2.2.2.2.2.2.2.2.1, .str z.2.2.2.2.2.2.2.2.2.2.2.2.2.2.2.2.1], .arr tRange z.2.2.2.2.2.2.2.2.2.2.2.2.2.2.2.2.2]))

theorem spec_ReadTxn_jx6000001 (x : (Int × Int × Int × Int × Int × Int × Bool × ByteArray × ByteArray × Int × Bool × Int × Int × Int × Int × Bool × ByteArray × (List dRange))) : exec G12 ⟨0, 115, spec_ReadTxn_loops⟩ (loopBody Try.f60 6000001) (bodyK ⟨0, 115, spec_ReadTxn_loops⟩ [4, 7, 8, 9, 10] [none, none, none, none, none, none, none, none, none, none, none, none, none, none, none, none, none, none, none, none, some tRange]) (setEs (deads 115) [4, 7, 8, 9, 10] (spec_ReadTxn_jv6000001 x)) (spec_ReadTxn_js6000001 x) = spec_ReadTxn_j6000001 x (fun z => some ⟨(spec_ReadTxn_je6000001 z).1, (spec_ReadTxn_je6000001 z).2.1, (spec_ReadTxn_je6000001 z).2.2⟩) := by
  kernel_rfl

theorem spec_ReadTxn_lo6000001 : ∀ sp, (spec_ReadTxn_loops 6000001) = some sp → CutOk G12 ⟨0, 115, spec_ReadTxn_loops⟩ sp (loopBody Try.f60 6000001) := by
  intro sp hsp vals st k r h
  cases hsp
  dsimp only at h
  rcases onPats_inv2 h with ⟨p, q, rfl, rfl, h⟩ | h
  · exact cut_runs spec_ReadTxn_jp6000001 spec_ReadTxn_jv6000001 spec_ReadTxn_js6000001 spec_ReadTxn_je6000001 spec_ReadTxn_jx6000001 (p.2.2.2.1, p.2.2.2.2.1, q.1.1, q.1.2.1, q.1.2.2.1, q.1.2.2.2.1, q.1.2.2.2.2.2.2.1, q.1.2.2.2.2.2.2.2.1, q.2.1.1, q.2.1.2.1, q.2.1.2.2.1, q.2.2.1.1, q.2.2.1.2.1, q.2.2.1.2.2.1, q.2.2.1.2.2.2.1, q.2.2.1.2.2.2.2.2.2.1, q.2.2.1.2.2.2.2.2.2.2.1, q.2.2.2.1) _ k r (fun z => rfl) h
  cases h

def spec_ReadTxn_v0 : (Int × Int × Int × Int × Int × Int × Bool × ByteArray × ByteArray × Int × Bool × Int × Int × Int × Int × Bool × ByteArray × (List dRange)) → List AV := (fun x => [.bp 0 0, .bp 1 0, .bp 2 0, .int .i64 x.1, .int .i64 x.2.1])
def spec_ReadTxn_s0 : (Int × Int × Int × Int × Int × Int × Bool × ByteArray × ByteArray × Int × Bool × Int × Int × Int × Int × Bool × ByteArray × (List dRange)) → St := (fun x => [.box [.int .i64 x.2.2.1, .int .i64 x.2.2.2.1, .int .i64 x.2.2.2.2.1, .int .i64 x.2.2.2.2.2.1, .nilS, .nilS, .bool x.2.2.2.2.2.2.1, .str x.2.2.2.2.2.2.2.1], .box [.str x.2.2.2.2.2.2.2.2.1, .int .i64 x.2.2.2.2.2.2.2.2.2.1, .bool x.2.2.2.2.2.2.2.2.2.2.1], .box [.int .i64 x.2.2.2.2.2.2.2.2.2.2.2.1, .int .i64 x.2.2.2.2.2.2.2.2.2.2.2.2.1, .int .i64 x.2.2.2.2.2.2.2.2.2.2.2.2.2.1, .int .i64 x.2.2.2.2.2.2.2.2.2.2.2.2.2.2.1, .own 3, .nilS, .bool x.2.2.2.2.2.2.2.2.2.2.2.2.2.2.2.1, .str x.2.2.2.2.2.2.2.2.2.2.2.2.2.2.2.2.1], .arr tRange x.2.2.2.2.2.2.2.2.2.2.2.2.2.2.2.2.2])
def spec_ReadTxn_e0 : (Int × Int × Int × Int × Int × Int × Bool × ByteArray × ByteArray × Int × Bool × Int × Int × Int × Int × Bool × ByteArray × (List dRange)) → Out × List AV × St := (fun z => ((.exit 0), [.bp 0 0, .bp 1 0, .bp 2 0, .int .i64 z.1, .int .i64 z.2.1], [.box [.int .i64 z.2.2.1, .int .i64 z.2.2.2.1, .int .i64 z.2.2.2.2.1, .int .i64 z.2.2.2.2.2.1, .nilS, .nilS, .bool z.2.2.2.2.2.2.1, .str z.2.2.2.2.2.2.2.1], .box [.str z.2.2.2.2.2.2.2.2.1, .int .i64 z.2.2.2.2.2.2.2.2.2.1, .bool z.2.2.2.2.2.2.2.2.2.2.1], .box [.int .i64 z.2.2.2.2.2.2.2.2.2.2.2.1, .int .i64 z.2.2.2.2.2.2.2.2.2.2.2.2.1, .int .i64 z.2.2.2.2.2.2.2.2.2.2.2.2.2.1, .int .i64 z.2.2.2.2.2.2.2.2.2.2.2.2.2.2.1, .own 3, .nilS, .bool z.2.2.2.2.2.2.2.2.2.2.2.2.2.2.2.1, .str z.2.2.2.2.2.2.2.2.2.2.2.2.2.2.2.2.1], .arr tRange z.2.2.2.2.2.2.2.2.2.2.2.2.2.2.2.2.2]))

theorem spec_ReadTxn_bx0 (x : (Int × Int × Int × Int × Int × Int × Bool × ByteArray × ByteArray × Int × Bool × Int × Int × Int × Int × Bool × ByteArray × (List dRange))) : exec G12 ⟨0, 115, spec_ReadTxn_loops⟩ (loopBody Try.f60 0) (bodyK ⟨0, 115, spec_ReadTxn_loops⟩ [4, 7, 8, 9, 10] [none, none, none, none, none, none, none, none, none, none, none, none, none, none, none, none, none, none, none, none, some tRange]) (setEs (deads 115) [4, 7, 8, 9, 10] (spec_ReadTxn_v0 x)) (spec_ReadTxn_s0 x) = spec_ReadTxn_b0 x (Sum.elim (fun y => some ⟨.norm, spec_ReadTxn_v0 y, spec_ReadTxn_s0 y⟩) fun z => some ⟨(spec_ReadTxn_e0 z).1, (spec_ReadTxn_e0 z).2.1, (spec_ReadTxn_e0 z).2.2⟩) := by
  kernel_rfl

theorem spec_ReadTxn_lo0 : ∀ sp, (spec_ReadTxn_loops 0) = some sp → LoopOk G12 ⟨0, 115, spec_ReadTxn_loops⟩ sp (loopBody Try.f60 0) := by
  intro sp hsp vals st k r h
  cases hsp
  dsimp only at h
  rcases onPats_inv2 h with ⟨p, q, rfl, rfl, h⟩ | h
  · exact loop_runs2 spec_ReadTxn_bp0 spec_ReadTxn_v0 spec_ReadTxn_s0 spec_ReadTxn_e0 (fun z => by (intro h; cases h)) spec_ReadTxn_bx0 Fuel (p.2.2.2.1, p.2.2.2.2.1, q.1.1, q.1.2.1, q.1.2.2.1, q.1.2.2.2.1, q.1.2.2.2.2.2.2.1, q.1.2.2.2.2.2.2.2.1, q.2.1.1, q.2.1.2.1, q.2.1.2.2.1, q.2.2.1.1, q.2.2.1.2.1, q.2.2.1.2.2.1, q.2.2.1.2.2.2.1, q.2.2.1.2.2.2.2.2.2.1, q.2.2.1.2.2.2.2.2.2.2.1, q.2.2.2.1) _ k r (fun z => rfl) h
  cases h

def spec_ReadTxn_jv6000003 : (Int × Int × Int × Int × Int × Int × Bool × ByteArray × ByteArray × Int × Bool × Int × Int × Int × Int × Bool × ByteArray × (List dRange) × (List dWrite)) → List AV := (fun x => [.bp 0 0, .bp 1 0, .bp 2 0, .int .i64 x.1, .int .i64 x.2.1])
def spec_ReadTxn_js6000003 : (Int × Int × Int × Int × Int × Int × Bool × ByteArray × ByteArray × Int × Bool × Int × Int × Int × Int × Bool × ByteArray × (List dRange) × (List dWrite)) → St := (fun x => [.box [.int .i64 x.2.2.1, .int .i64 x.2.2.2.1, .int .i64 x.2.2.2.2.1, .int .i64 x.2.2.2.2.2.1, .nilS, .nilS, .bool x.2.2.2.2.2.2.1, .str x.2.2.2.2.2.2.2.1], .box [.str x.2.2.2.2.2.2.2.2.1, .int .i64 x.2.2.2.2.2.2.2.2.2.1, .bool x.2.2.2.2.2.2.2.2.2.2.1], .box [.int .i64 x.2.2.2.2.2.2.2.2.2.2.2.1, .int .i64 x.2.2.2.2.2.2.2.2.2.2.2.2.1, .int .i64 x.2.2.2.2.2.2.2.2.2.2.2.2.2.1, .int .i64 x.2.2.2.2.2.2.2.2.2.2.2.2.2.2.1, .own 3, .own 4, .bool x.2.2.2.2.2.2.2.2.2.2.2.2.2.2.2.1, .str x.2.2.2.2.2.2.2.2.2.2.2.2.2.2.2.2.1], .arr tRange x.2.2.2.2.2.2.2.2.2.2.2.2.2.2.2.2.2.1, .arr tWrite x.2.2.2.2.2.2.2.2.2.2.2.2.2.2.2.2.2.2])
def spec_ReadTxn_je6000003 : (Int × Int × Int × Int × Int × Int × Bool × ByteArray × ByteArray × Int × Bool × Int × Int × Int × Int × Bool × ByteArray × (List dRange) × (List dWrite)) → Out × List AV × St := (fun z => (.norm, [.bp 0 0, .bp 1 0, .bp 2 0, .int .i64 z.1, .int .i64 z.2.1], [.box [.int .i64 z.2.2.1, .int .i64 z.2.2.2.1, .int .i64 z.2.2.2.2.1, .int .i64 z.2.2.2.2.2.1, .nilS, .nilS, .bool z.2.2.2.2.2.2.1, .str z.2.2.2.2.2.2.2.1], .box [.str z.2.2.2.2.2.2.2.2.1, .int .i64 z.2.2.2.2.2.2.2.2.2.1, .bool z.2.2.2.2.2.2.2.2.2.2.1], .box [.int .i64 z.2.2.2.2.2.2.2.2.2.2.2.1, .int .i64 z.2.2.2.2.2.2.2.2.2.2.2.2.1, .int .i64 z.2.2.2.2.2.2.2.2.2.2.2.2.2.1, .int .i64 z.2.2.2.2.2.2.2.2.2.2.2.2.2.2.1, .own 3, .own 4, .bool z.2.2.2.2.2.2.2.2.2.2.2.2.2.2.2.1, .str z.2.2.2.2.2.2.2.2.2.2.2.2.2.2.2.2.1], .arr tRange z.2.2.2.2.2.2.2.2.2.2.2.2.2.2.2.2.2.1, .arr tWrite z.2.2.2.2.2.2.2.2.2.2.2.2.2.2.2.2.2.2]))

theorem spec_ReadTxn_jx6000003 (x : (Int × Int × Int × Int × Int × Int × Bool × ByteArray × ByteArray × Int × Bool × Int × Int × Int × Int × Bool × ByteArray × (List dRange) × (List dWrite))) : exec G12 ⟨0, 115, spec_ReadTxn_loops⟩ (loopBody Try.f60 6000003) (bodyK ⟨0, 115, spec_ReadTxn_loops⟩ [4, 7, 8, 12, 13] [none, none, none, none, none, none, none, none, none, none, none, none, none, none, none, none, none, none, none, none, some tRange, some tWrite]) (setEs (deads 115) [4, 7, 8, 12, 13] (spec_ReadTxn_jv6000003 x)) (spec_ReadTxn_js6000003 x) = spec_ReadTxn_j6000003 x (fun z => some ⟨(spec_ReadTxn_je6000003 z).1, (spec_ReadTxn_je6000003 z).2.1, (spec_ReadTxn_je6000003 z).2.2⟩) := by
  kernel_rfl

theorem spec_ReadTxn_lo6000003 : ∀ sp, (spec_ReadTxn_loops 6000003) = some sp → CutOk G12 ⟨0, 115, spec_ReadTxn_loops⟩ sp (loopBody Try.f60 6000003) := by
  intro sp hsp vals st k r h
  cases hsp
  dsimp only at h
  rcases onPats_inv2 h with ⟨p, q, rfl, rfl, h⟩ | h
  · exact cut_runs spec_ReadTxn_jp6000003 spec_ReadTxn_jv6000003 spec_ReadTxn_js6000003 spec_ReadTxn_je6000003 spec_ReadTxn_jx6000003 (p.2.2.2.1, p.2.2.2.2.1, q.1.1, q.1.2.1, q.1.2.2.1, q.1.2.2.2.1, q.1.2.2.2.2.2.2.1, q.1.2.2.2.2.2.2.2.1, q.2.1.1, q.2.1.2.1, q.2.1.2.2.1, q.2.2.1.1, q.2.2.1.2.1, q.2.2.1.2.2.1, q.2.2.1.2.2.2.1, q.2.2.1.2.2.2.2.2.2.1, q.2.2.1.2.2.2.2.2.2.2.1, q.2.2.2.1, q.2.2.2.2.1) _ k r (fun z => rfl) h
  cases h

def spec_ReadTxn_v2 : (Int × Int × Int × Int × Int × Int × Bool × ByteArray × ByteArray × Int × Bool × Int × Int × Int × Int × Bool × ByteArray × (List dRange) × (List dWrite)) → List AV := (fun x => [.bp 0 0, .bp 1 0, .bp 2 0, .int .i64 x.1, .int .i64 x.2.1])
def spec_ReadTxn_s2 : (Int × Int × Int × Int × Int × Int × Bool × ByteArray × ByteArray × Int × Bool × Int × Int × Int × Int × Bool × ByteArray × (List dRange) × (List dWrite)) → St := (fun x => [.box [.int .i64 x.2.2.1, .int .i64 x.2.2.2.1, .int .i64 x.2.2.2.2.1, .int .i64 x.2.2.2.2.2.1, .nilS, .nilS, .bool x.2.2.2.2.2.2.1, .str x.2.2.2.2.2.2.2.1], .box [.str x.2.2.2.2.2.2.2.2.1, .int .i64 x.2.2.2.2.2.2.2.2.2.1, .bool x.2.2.2.2.2.2.2.2.2.2.1], .box [.int .i64 x.2.2.2.2.2.2.2.2.2.2.2.1, .int .i64 x.2.2.2.2.2.2.2.2.2.2.2.2.1, .int .i64 x.2.2.2.2.2.2.2.2.2.2.2.2.2.1, .int .i64 x.2.2.2.2.2.2.2.2.2.2.2.2.2.2.1, .own 3, .own 4, .bool x.2.2.2.2.2.2.2.2.2.2.2.2.2.2.2.1, .str x.2.2.2.2.2.2.2.2.2.2.2.2.2.2.2.2.1], .arr tRange x.2.2.2.2.2.2.2.2.2.2.2.2.2.2.2.2.2.1, .arr tWrite x.2.2.2.2.2.2.2.2.2.2.2.2.2.2.2.2.2.2])
def spec_ReadTxn_e2 : (Int × Int × Int × Int × Int × Int × Bool × ByteArray × ByteArray × Int × Bool × Int × Int × Int × Int × Bool × ByteArray × (List dRange) × (List dWrite)) → Out × List AV × St := (fun z => ((.exit 2), [.bp 0 0, .bp 1 0, .bp 2 0, .int .i64 z.1, .int .i64 z.2.1], [.box [.int .i64 z.2.2.1, .int .i64 z.2.2.2.1, .int .i64 z.2.2.2.2.1, .int .i64 z.2.2.2.2.2.1, .nilS, .nilS, .bool z.2.2.2.2.2.2.1, .str z.2.2.2.2.2.2.2.1], .box [.str z.2.2.2.2.2.2.2.2.1, .int .i64 z.2.2.2.2.2.2.2.2.2.1, .bool z.2.2.2.2.2.2.2.2.2.2.1], .box [.int .i64 z.2.2.2.2.2.2.2.2.2.2.2.1, .int .i64 z.2.2.2.2.2.2.2.2.2.2.2.2.1, .int .i64 z.2.2.2.2.2.2.2.2.2.2.2.2.2.1, .int .i64 z.2.2.2.2.2.2.2.2.2.2.2.2.2.2.1, .own 3, .own 4, .bool z.2.2.2.2.2.2.2.2.2.2.2.2.2.2.2.1, .str z.2.2.2.2.2.2.2.2.2.2.2.2.2.2.2.2.1], .arr tRange z.2.2.2.2.2.2.2.2.2.2.2.2.2.2.2.2.2.1, .arr tWrite z.2.2.2.2.2.2.2.2.2.2.2.2.2.2.2.2.2.2]))

theorem spec_ReadTxn_bx2 (x : (Int × Int × Int × Int × Int × Int × Bool × ByteArray × ByteArray × Int × Bool × Int × Int × Int × Int × Bool × ByteArray × (List dRange) × (List dWrite))) : exec G12 ⟨0, 115, spec_ReadTxn_loops⟩ (loopBody Try.f60 2) (bodyK ⟨0, 115, spec_ReadTxn_loops⟩ [4, 7, 8, 12, 13] [none, none, none, none, none, none, none, none, none, none, none, none, none, none, none, none, none, none, none, none, some tRange, some tWrite]) (setEs (deads 115) [4, 7, 8, 12, 13] (spec_ReadTxn_v2 x)) (spec_ReadTxn_s2 x) = spec_ReadTxn_b2 x (Sum.elim (fun y => some ⟨.norm, spec_ReadTxn_v2 y, spec_ReadTxn_s2 y⟩) fun z => some ⟨(spec_ReadTxn_e2 z).1, (spec_ReadTxn_e2 z).2.1, (spec_ReadTxn_e2 z).2.2⟩) := by
  kernel_rfl

theorem spec_ReadTxn_lo2 : ∀ sp, (spec_ReadTxn_loops 2) = some sp → LoopOk G12 ⟨0, 115, spec_ReadTxn_loops⟩ sp (loopBody Try.f60 2) := by
  intro sp hsp vals st k r h
  cases hsp
  dsimp only at h
  rcases onPats_inv2 h with ⟨p, q, rfl, rfl, h⟩ | h
  · exact loop_runs2 spec_ReadTxn_bp2 spec_ReadTxn_v2 spec_ReadTxn_s2 spec_ReadTxn_e2 (fun z => by (intro h; cases h)) spec_ReadTxn_bx2 Fuel (p.2.2.2.1, p.2.2.2.2.1, q.1.1, q.1.2.1, q.1.2.2.1, q.1.2.2.2.1, q.1.2.2.2.2.2.2.1, q.1.2.2.2.2.2.2.2.1, q.2.1.1, q.2.1.2.1, q.2.1.2.2.1, q.2.2.1.1, q.2.2.1.2.1, q.2.2.1.2.2.1, q.2.2.1.2.2.2.1, q.2.2.1.2.2.2.2.2.2.1, q.2.2.1.2.2.2.2.2.2.2.1, q.2.2.2.1, q.2.2.2.2.1) _ k r (fun z => rfl) h
  cases h

theorem spec_ReadTxn_x (a0 : ByteArray) (a1 : Int) : execFn G12 spec_ReadTxn_loops Try.f60 [.str a0, .int .i64 a1] [] = spec_ReadTxn_d a0 a1 (fun (y : (Int × Int × Int × Int × Bool × ByteArray × Int × Bool × (List dRange) × (List dWrite))) => some ⟨.ret, [.tup [.agg [.int .i64 y.1, .int .i64 y.2.1, .int .i64 y.2.2.1, .int .i64 y.2.2.2.1, .own 0, .own 1, .bool y.2.2.2.2.1, .str y.2.2.2.2.2.1], .int .i64 y.2.2.2.2.2.2.1, .bool y.2.2.2.2.2.2.2.1]], [.arr tRange y.2.2.2.2.2.2.2.2.1, .arr tWrite y.2.2.2.2.2.2.2.2.2]⟩) := by kernel_rfl

theorem spec_ReadTxn_y (a0 : ByteArray) (a1 : Int) : execFn G12 spec_ReadTxn_loops Try.f60 [.str a0, .int .i64 a1] [] = spec_ReadTxn_k a0 a1 (fun (y : (Int × Int × Int × Int × Bool × ByteArray × Int × Bool × (List dRange) × (List dWrite))) => some ⟨.ret, [.tup [.agg [.int .i64 y.1, .int .i64 y.2.1, .int .i64 y.2.2.1, .int .i64 y.2.2.2.1, .own 0, .own 1, .bool y.2.2.2.2.1, .str y.2.2.2.2.2.1], .int .i64 y.2.2.2.2.2.2.1, .bool y.2.2.2.2.2.2.2.1]], [.arr tRange y.2.2.2.2.2.2.2.2.1, .arr tWrite y.2.2.2.2.2.2.2.2.2]⟩) := (spec_ReadTxn_x a0 a1).trans (by rw [spec_ReadTxn_e])

theorem spec_ReadTxn_l : LoopsOk G12 ⟨0, 115, spec_ReadTxn_loops⟩ (Try.f60.body.getD .skip) :=
  loopsOk_of (ids := [5000025, 6000001, 0, 6000003, 2]) (by kernel_rfl) (by kernel_rfl) ⟨spec_ReadTxn_lo5000025, ⟨spec_ReadTxn_lo6000001, ⟨spec_ReadTxn_lo0, ⟨spec_ReadTxn_lo6000003, ⟨spec_ReadTxn_lo2, trivial⟩⟩⟩⟩⟩

theorem spec_ReadTxn_c : Contract Try.prog 60 spec_ReadTxn_g := by
  refine told G12_ok follows Try.func60 (c := Try.f60.body.getD .skip) (by kernel_rfl) ?_
  intro args s k r hk
  unfold spec_ReadTxn_g at hk
  rcases onPats_inv hk with ⟨p, q, rfl, rfl⟩ | hk
  · exact ⟨spec_ReadTxn_loops, spec_ReadTxn_q p.1 p.2.1, spec_ReadTxn_y p.1 p.2.1, spec_ReadTxn_l⟩
  cases hk

def G13 : Glob := G12.add 60 spec_ReadTxn_g

theorem G13_ok : GlobOk Try.prog G13 := G12_ok.add ⟨Try.f60, Try.func60, by kernel_rfl, by kernel_rfl⟩ spec_ReadTxn_c

/-! ### loop.example/g00327/impl.within -/

def impl_within_loops : Nat → Option LoopSpec
  | _ => none

theorem impl_within_x (a0 : Int) (a1 : Int) (a2 : Int) : execFn G13 impl_within_loops Try.f147 [.int .i64 a0, .int .i64 a1, .int .i64 a2] [] = impl_within_d a0 a1 a2 (fun (y : Bool) => some ⟨.ret, [.bool y], []⟩) := by kernel_rfl

theorem impl_within_y (a0 : Int) (a1 : Int) (a2 : Int) : execFn G13 impl_within_loops Try.f147 [.int .i64 a0, .int .i64 a1, .int .i64 a2] [] = impl_within_k a0 a1 a2 (fun (y : Bool) => some ⟨.ret, [.bool y], []⟩) := (impl_within_x a0 a1 a2).trans (by rw [impl_within_e])

theorem impl_within_l : LoopsOk G13 ⟨0, 15, impl_within_loops⟩ (Try.f147.body.getD .skip) :=
  loopsOk_of (ids := []) (by kernel_rfl) (by kernel_rfl) trivial

theorem impl_within_c : Contract Try.prog 147 impl_within_g := by
  refine told G13_ok follows Try.func147 (c := Try.f147.body.getD .skip) (by kernel_rfl) ?_
  intro args s k r hk
  unfold impl_within_g at hk
  rcases onPats_inv hk with ⟨p, q, rfl, rfl⟩ | hk
  · exact ⟨impl_within_loops, impl_within_q p.1 p.2.1 p.2.2.1, impl_within_y p.1 p.2.1 p.2.2.1, impl_within_l⟩
  cases hk

def G14 : Glob := G13.add 147 impl_within_g

theorem G14_ok : GlobOk Try.prog G14 := G13_ok.add ⟨Try.f147, Try.func147, by kernel_rfl, by kernel_rfl⟩ impl_within_c

/-! ### loop.example/g00327/impl.VarText -/

def impl_VarText_loops : Nat → Option LoopSpec
  | 0 => some ⟨[0, 4], [none, some (.int .u8)], fun vals st k => onPats [.int .i64, .own 0] [.arr (.int .u8)] vals st (fun p q => loopK impl_VarText_b0 Fuel (p.1, q.1) (fun z => k (.exit 0) [.int .i64 z.1, .own 0] [.arr (.int .u8) z.2]))
      (none)⟩
  | _ => none

def impl_VarText_v0 : (Int × (List Int)) → List AV := (fun x => [.int .i64 x.1, .own 0])
def impl_VarText_s0 : (Int × (List Int)) → St := (fun x => [.arr (.int .u8) x.2])
def impl_VarText_e0 : (Int × (List Int)) → Out × List AV × St := (fun z => ((.exit 0), [.int .i64 z.1, .own 0], [.arr (.int .u8) z.2]))

theorem impl_VarText_bx0 (x : (Int × (List Int))) : exec G14 ⟨0, 25, impl_VarText_loops⟩ (loopBody Try.f171 0) (bodyK ⟨0, 25, impl_VarText_loops⟩ [0, 4] [none, some (.int .u8)]) (setEs (deads 25) [0, 4] (impl_VarText_v0 x)) (impl_VarText_s0 x) = impl_VarText_b0 x (Sum.elim (fun y => some ⟨.norm, impl_VarText_v0 y, impl_VarText_s0 y⟩) fun z => some ⟨(impl_VarText_e0 z).1, (impl_VarText_e0 z).2.1, (impl_VarText_e0 z).2.2⟩) := by
  kernel_rfl

theorem impl_VarText_lo0 : ∀ sp, (impl_VarText_loops 0) = some sp → LoopOk G14 ⟨0, 25, impl_VarText_loops⟩ sp (loopBody Try.f171 0) := by
  intro sp hsp vals st k r h
  cases hsp
  dsimp only at h
  rcases onPats_inv2 h with ⟨p, q, rfl, rfl, h⟩ | h
  · exact loop_runs2 impl_VarText_bp0 impl_VarText_v0 impl_VarText_s0 impl_VarText_e0 (fun z => by (intro h; cases h)) impl_VarText_bx0 Fuel (p.1, q.1) _ k r (fun z => rfl) h
  cases h

theorem impl_VarText_x (a0 : Int) : execFn G14 impl_VarText_loops Try.f171 [.int .i64 a0] [] = impl_VarText_d a0 (fun (y : (ByteArray × Bool)) => some ⟨.ret, [.tup [.str y.1, .bool y.2]], []⟩) := by kernel_rfl

theorem impl_VarText_y (a0 : Int) : execFn G14 impl_VarText_loops Try.f171 [.int .i64 a0] [] = impl_VarText_k a0 (fun (y : (ByteArray × Bool)) => some ⟨.ret, [.tup [.str y.1, .bool y.2]], []⟩) := (impl_VarText_x a0).trans (by rw [impl_VarText_e])

theorem impl_VarText_l : LoopsOk G14 ⟨0, 25, impl_VarText_loops⟩ (Try.f171.body.getD .skip) :=
  loopsOk_of (ids := [0]) (by kernel_rfl) (by kernel_rfl) ⟨impl_VarText_lo0, trivial⟩

theorem impl_VarText_c : Contract Try.prog 171 impl_VarText_g := by
  refine told G14_ok follows Try.func171 (c := Try.f171.body.getD .skip) (by kernel_rfl) ?_
  intro args s k r hk
  unfold impl_VarText_g at hk
  rcases onPats_inv hk with ⟨p, q, rfl, rfl⟩ | hk
  · exact ⟨impl_VarText_loops, impl_VarText_q p.1, impl_VarText_y p.1, impl_VarText_l⟩
  cases hk

def G15 : Glob := G14.add 171 impl_VarText_g

theorem G15_ok : GlobOk Try.prog G15 := G14_ok.add ⟨Try.f171, Try.func171, by kernel_rfl, by kernel_rfl⟩ impl_VarText_c

/-! ### loop.example/g00327/impl.ReadVar -/

def impl_ReadVar_loops : Nat → Option LoopSpec
  | 6000001 => some ⟨[0, 1, 4, 5, 6, 7, 8], [], fun vals st k => onPats [.str, .int .i64, .int .i64, .int .i64, .bool, .int .i64, .int .i64] [] vals st (fun p q => impl_ReadVar_j6000001 (p.1, p.2.1, p.2.2.1, p.2.2.2.1, p.2.2.2.2.1, p.2.2.2.2.2.1, p.2.2.2.2.2.2.1) (Sum.elim (fun z => k .ret [.str z.1, .int .i64 z.2.1, .int .i64 z.2.2.1, .int .i64 z.2.2.2.1, .bool z.2.2.2.2.1, .int .i64 z.2.2.2.2.2.1, .int .i64 z.2.2.2.2.2.2] []) (fun z => k .norm [.str z.1, .int .i64 z.2.1, .int .i64 z.2.2.1, .int .i64 z.2.2.2.1, .bool z.2.2.2.2.1, .int .i64 z.2.2.2.2.2.1, .int .i64 z.2.2.2.2.2.2] [])))
      (none)⟩
  | 0 => some ⟨[0, 1, 4, 5, 6, 7, 8], [], fun vals st k => onPats [.str, .int .i64, .int .i64, .int .i64, .bool, .int .i64, .int .i64] [] vals st (fun p q => loopK impl_ReadVar_b0 Fuel (p.1, p.2.1, p.2.2.1, p.2.2.2.1, p.2.2.2.2.1, p.2.2.2.2.2.1, p.2.2.2.2.2.2.1) (Sum.elim (fun z => k (.exit 0) [.str z.1, .int .i64 z.2.1, .int .i64 z.2.2.1, .int .i64 z.2.2.2.1, .bool z.2.2.2.2.1, .int .i64 z.2.2.2.2.2.1, .int .i64 z.2.2.2.2.2.2] []) (fun z => k .ret [.str z.1, .int .i64 z.2.1, .int .i64 z.2.2.1, .int .i64 z.2.2.2.1, .bool z.2.2.2.2.1, .int .i64 z.2.2.2.2.2.1, .int .i64 z.2.2.2.2.2.2] [])))
      (none)⟩
  | _ => none

def impl_ReadVar_jv6000001 : (ByteArray × Int × Int × Int × Bool × Int × Int) → List AV := (fun x => [.str x.1, .int .i64 x.2.1, .int .i64 x.2.2.1, .int .i64 x.2.2.2.1, .bool x.2.2.2.2.1, .int .i64 x.2.2.2.2.2.1, .int .i64 x.2.2.2.2.2.2])
def impl_ReadVar_js6000001 : (ByteArray × Int × Int × Int × Bool × Int × Int) → St := (fun x => [])
def impl_ReadVar_je6000001 : ((ByteArray × Int × Int × Int × Bool × Int × Int) ⊕ (ByteArray × Int × Int × Int × Bool × Int × Int)) → Out × List AV × St := (Sum.elim (fun z => (.ret, [.str z.1, .int .i64 z.2.1, .int .i64 z.2.2.1, .int .i64 z.2.2.2.1, .bool z.2.2.2.2.1, .int .i64 z.2.2.2.2.2.1, .int .i64 z.2.2.2.2.2.2], [])) (fun z => (.norm, [.str z.1, .int .i64 z.2.1, .int .i64 z.2.2.1, .int .i64 z.2.2.2.1, .bool z.2.2.2.2.1, .int .i64 z.2.2.2.2.2.1, .int .i64 z.2.2.2.2.2.2], [])))

theorem impl_ReadVar_jx6000001 (x : (ByteArray × Int × Int × Int × Bool × Int × Int)) : exec G15 ⟨0, 63, impl_ReadVar_loops⟩ (loopBody Try.f216 6000001) (bodyK ⟨0, 63, impl_ReadVar_loops⟩ [0, 1, 4, 5, 6, 7, 8] []) (setEs (deads 63) [0, 1, 4, 5, 6, 7, 8] (impl_ReadVar_jv6000001 x)) (impl_ReadVar_js6000001 x) = impl_ReadVar_j6000001 x (fun z => some ⟨(impl_ReadVar_je6000001 z).1, (impl_ReadVar_je6000001 z).2.1, (impl_ReadVar_je6000001 z).2.2⟩) := by
  kernel_rfl

theorem impl_ReadVar_lo6000001 : ∀ sp, (impl_ReadVar_loops 6000001) = some sp → CutOk G15 ⟨0, 63, impl_ReadVar_loops⟩ sp (loopBody Try.f216 6000001) := by
  intro sp hsp vals st k r h
  cases hsp
  dsimp only at h
  rcases onPats_inv2 h with ⟨p, q, rfl, rfl, h⟩ | h
  · exact cut_runs impl_ReadVar_jp6000001 impl_ReadVar_jv6000001 impl_ReadVar_js6000001 impl_ReadVar_je6000001 impl_ReadVar_jx6000001 (p.1, p.2.1, p.2.2.1, p.2.2.2.1, p.2.2.2.2.1, p.2.2.2.2.2.1, p.2.2.2.2.2.2.1) _ k r (fun z => by rcases z with z | z <;> rfl) h
  cases h

def impl_ReadVar_v0 : (ByteArray × Int × Int × Int × Bool × Int × Int) → List AV := (fun x => [.str x.1, .int .i64 x.2.1, .int .i64 x.2.2.1, .int .i64 x.2.2.2.1, .bool x.2.2.2.2.1, .int .i64 x.2.2.2.2.2.1, .int .i64 x.2.2.2.2.2.2])
def impl_ReadVar_s0 : (ByteArray × Int × Int × Int × Bool × Int × Int) → St := (fun x => [])
def impl_ReadVar_e0 : ((ByteArray × Int × Int × Int × Bool × Int × Int) ⊕ (ByteArray × Int × Int × Int × Bool × Int × Int)) → Out × List AV × St := (Sum.elim (fun z => ((.exit 0), [.str z.1, .int .i64 z.2.1, .int .i64 z.2.2.1, .int .i64 z.2.2.2.1, .bool z.2.2.2.2.1, .int .i64 z.2.2.2.2.2.1, .int .i64 z.2.2.2.2.2.2], [])) (fun z => (.ret, [.str z.1, .int .i64 z.2.1, .int .i64 z.2.2.1, .int .i64 z.2.2.2.1, .bool z.2.2.2.2.1, .int .i64 z.2.2.2.2.2.1, .int .i64 z.2.2.2.2.2.2], [])))

theorem impl_ReadVar_bx0 (x : (ByteArray × Int × Int × Int × Bool × Int × Int)) : exec G15 ⟨0, 63, impl_ReadVar_loops⟩ (loopBody Try.f216 0) (bodyK ⟨0, 63, impl_ReadVar_loops⟩ [0, 1, 4, 5, 6, 7, 8] []) (setEs (deads 63) [0, 1, 4, 5, 6, 7, 8] (impl_ReadVar_v0 x)) (impl_ReadVar_s0 x) = impl_ReadVar_b0 x (Sum.elim (fun y => some ⟨.norm, impl_ReadVar_v0 y, impl_ReadVar_s0 y⟩) fun z => some ⟨(impl_ReadVar_e0 z).1, (impl_ReadVar_e0 z).2.1, (impl_ReadVar_e0 z).2.2⟩) := by
  kernel_rfl

theorem impl_ReadVar_lo0 : ∀ sp, (impl_ReadVar_loops 0) = some sp → LoopOk G15 ⟨0, 63, impl_ReadVar_loops⟩ sp (loopBody Try.f216 0) := by
  intro sp hsp vals st k r h
  cases hsp
  dsimp only at h
  rcases onPats_inv2 h with ⟨p, q, rfl, rfl, h⟩ | h
  · exact loop_runs2 impl_ReadVar_bp0 impl_ReadVar_v0 impl_ReadVar_s0 impl_ReadVar_e0 (fun z => by rcases z with z | z <;> (intro h; cases h)) impl_ReadVar_bx0 Fuel (p.1, p.2.1, p.2.2.1, p.2.2.2.1, p.2.2.2.2.1, p.2.2.2.2.2.1, p.2.2.2.2.2.2.1) _ k r (fun z => by rcases z with z | z <;> rfl) h
  cases h

theorem impl_ReadVar_x (a0 : ByteArray) (a1 : Int) : execFn G15 impl_ReadVar_loops Try.f216 [.str a0, .int .i64 a1] [] = impl_ReadVar_d a0 a1 (fun (y : (Int × Int × Bool)) => some ⟨.ret, [.tup [.int .i64 y.1, .int .i64 y.2.1, .bool y.2.2]], []⟩) := by kernel_rfl

theorem impl_ReadVar_y (a0 : ByteArray) (a1 : Int) : execFn G15 impl_ReadVar_loops Try.f216 [.str a0, .int .i64 a1] [] = impl_ReadVar_k a0 a1 (fun (y : (Int × Int × Bool)) => some ⟨.ret, [.tup [.int .i64 y.1, .int .i64 y.2.1, .bool y.2.2]], []⟩) := (impl_ReadVar_x a0 a1).trans (by rw [impl_ReadVar_e])

theorem impl_ReadVar_l : LoopsOk G15 ⟨0, 63, impl_ReadVar_loops⟩ (Try.f216.body.getD .skip) :=
  loopsOk_of (ids := [6000001, 0]) (by kernel_rfl) (by kernel_rfl) ⟨impl_ReadVar_lo6000001, ⟨impl_ReadVar_lo0, trivial⟩⟩

theorem impl_ReadVar_c : Contract Try.prog 216 impl_ReadVar_g := by
  refine told G15_ok follows Try.func216 (c := Try.f216.body.getD .skip) (by kernel_rfl) ?_
  intro args s k r hk
  unfold impl_ReadVar_g at hk
  rcases onPats_inv hk with ⟨p, q, rfl, rfl⟩ | hk
  · exact ⟨impl_ReadVar_loops, impl_ReadVar_q p.1 p.2.1, impl_ReadVar_y p.1 p.2.1, impl_ReadVar_l⟩
  cases hk

def G16 : Glob := G15.add 216 impl_ReadVar_g

theorem G16_ok : GlobOk Try.prog G16 := G15_ok.add ⟨Try.f216, Try.func216, by kernel_rfl, by kernel_rfl⟩ impl_ReadVar_c

/-! ### (*loop.example/g00327/impl.reader).num -/

def impl_reader_num_loops : Nat → Option LoopSpec
  | 2000001 => some ⟨[0, 2, 4, 6, 8, 10, 12, 14, 16, 18, 20, 22, 24, 26, 28, 30], [], fun _ _ _ => none⟩
  | _ => none

theorem impl_reader_num_x (a0 : ByteArray) (a1 : Int) (a2 : Bool) : execFn G16 impl_reader_num_loops Try.f191 [.bp 0 0] [.box [.str a0, .int .i64 a1, .bool a2]] = impl_reader_num_d a0 a1 a2 (fun (y : (Int × ByteArray × Int × Bool)) => some ⟨.ret, [.int .i64 y.1], [.box [.str y.2.1, .int .i64 y.2.2.1, .bool y.2.2.2]]⟩) := by kernel_rfl

theorem impl_reader_num_y (a0 : ByteArray) (a1 : Int) (a2 : Bool) : execFn G16 impl_reader_num_loops Try.f191 [.bp 0 0] [.box [.str a0, .int .i64 a1, .bool a2]] = impl_reader_num_k a0 a1 a2 (fun (y : (Int × ByteArray × Int × Bool)) => some ⟨.ret, [.int .i64 y.1], [.box [.str y.2.1, .int .i64 y.2.2.1, .bool y.2.2.2]]⟩) := (impl_reader_num_x a0 a1 a2).trans (by rw [impl_reader_num_e])

theorem impl_reader_num_l : LoopsOk G16 ⟨1, 35, impl_reader_num_loops⟩ (Try.f191.body.getD .skip) :=
  loopsOk_of (ids := []) (by kernel_rfl) (by kernel_rfl) trivial

theorem impl_reader_num_c : Contract Try.prog 191 impl_reader_num_g := by
  refine told G16_ok follows Try.func191 (c := Try.f191.body.getD .skip) (by kernel_rfl) ?_
  intro args s k r hk
  unfold impl_reader_num_g at hk
  rcases onPats_inv hk with ⟨p, q, rfl, rfl⟩ | hk
  · exact ⟨impl_reader_num_loops, impl_reader_num_q q.1.1 q.1.2.1 q.1.2.2.1, impl_reader_num_y q.1.1 q.1.2.1 q.1.2.2.1, impl_reader_num_l⟩
  cases hk

def G17 : Glob := G16.add 191 impl_reader_num_g

theorem G17_ok : GlobOk Try.prog G17 := G16_ok.add ⟨Try.f191, Try.func191, by kernel_rfl, by kernel_rfl⟩ impl_reader_num_c

/-! ### loop.example/g00327/impl.ReadShort -/

def impl_ReadShort_loops : Nat → Option LoopSpec
  | _ => none

theorem impl_ReadShort_x (a0 : ByteArray) (a1 : Int) : execFn G17 impl_ReadShort_loops Try.f217 [.str a0, .int .i64 a1] [] = impl_ReadShort_d a0 a1 (fun (y : (ByteArray × Int × Bool)) => some ⟨.ret, [.tup [.str y.1, .int .i64 y.2.1, .bool y.2.2]], []⟩) := by kernel_rfl

theorem impl_ReadShort_y (a0 : ByteArray) (a1 : Int) : execFn G17 impl_ReadShort_loops Try.f217 [.str a0, .int .i64 a1] [] = impl_ReadShort_k a0 a1 (fun (y : (ByteArray × Int × Bool)) => some ⟨.ret, [.tup [.str y.1, .int .i64 y.2.1, .bool y.2.2]], []⟩) := (impl_ReadShort_x a0 a1).trans (by rw [impl_ReadShort_e])

theorem impl_ReadShort_l : LoopsOk G17 ⟨0, 40, impl_ReadShort_loops⟩ (Try.f217.body.getD .skip) :=
  loopsOk_of (ids := []) (by kernel_rfl) (by kernel_rfl) trivial

theorem impl_ReadShort_c : Contract Try.prog 217 impl_ReadShort_g := by
  refine told G17_ok follows Try.func217 (c := Try.f217.body.getD .skip) (by kernel_rfl) ?_
  intro args s k r hk
  unfold impl_ReadShort_g at hk
  rcases onPats_inv hk with ⟨p, q, rfl, rfl⟩ | hk
  · exact ⟨impl_ReadShort_loops, impl_ReadShort_q p.1 p.2.1, impl_ReadShort_y p.1 p.2.1, impl_ReadShort_l⟩
  cases hk

def G18 : Glob := G17.add 217 impl_ReadShort_g

theorem G18_ok : GlobOk Try.prog G18 := G17_ok.add ⟨Try.f217, Try.func217, by kernel_rfl, by kernel_rfl⟩ impl_ReadShort_c

/-! ### (*loop.example/g00327/impl.reader).text -/

def impl_reader_text_loops : Nat → Option LoopSpec
  | 2000001 => some ⟨[0, 2, 4, 6, 8, 10, 12, 14, 16, 18, 20, 22, 24, 26, 28, 30], [], fun _ _ _ => none⟩
  | _ => none

theorem impl_reader_text_x (a0 : ByteArray) (a1 : Int) (a2 : Bool) : execFn G18 impl_reader_text_loops Try.f194 [.bp 0 0] [.box [.str a0, .int .i64 a1, .bool a2]] = impl_reader_text_d a0 a1 a2 (fun (y : (ByteArray × ByteArray × Int × Bool)) => some ⟨.ret, [.str y.1], [.box [.str y.2.1, .int .i64 y.2.2.1, .bool y.2.2.2]]⟩) := by kernel_rfl

theorem impl_reader_text_y (a0 : ByteArray) (a1 : Int) (a2 : Bool) : execFn G18 impl_reader_text_loops Try.f194 [.bp 0 0] [.box [.str a0, .int .i64 a1, .bool a2]] = impl_reader_text_k a0 a1 a2 (fun (y : (ByteArray × ByteArray × Int × Bool)) => some ⟨.ret, [.str y.1], [.box [.str y.2.1, .int .i64 y.2.2.1, .bool y.2.2.2]]⟩) := (impl_reader_text_x a0 a1 a2).trans (by rw [impl_reader_text_e])

theorem impl_reader_text_l : LoopsOk G18 ⟨1, 35, impl_reader_text_loops⟩ (Try.f194.body.getD .skip) :=
  loopsOk_of (ids := []) (by kernel_rfl) (by kernel_rfl) trivial

theorem impl_reader_text_c : Contract Try.prog 194 impl_reader_text_g := by
  refine told G18_ok follows Try.func194 (c := Try.f194.body.getD .skip) (by kernel_rfl) ?_
  intro args s k r hk
  unfold impl_reader_text_g at hk
  rcases onPats_inv hk with ⟨p, q, rfl, rfl⟩ | hk
  · exact ⟨impl_reader_text_loops, impl_reader_text_q q.1.1 q.1.2.1 q.1.2.2.1, impl_reader_text_y q.1.1 q.1.2.1 q.1.2.2.1, impl_reader_text_l⟩
  cases hk

def G19 : Glob := G18.add 194 impl_reader_text_g

theorem G19_ok : GlobOk Try.prog G19 := G18_ok.add ⟨Try.f194, Try.func194, by kernel_rfl, by kernel_rfl⟩ impl_reader_text_c

/-! ### (*loop.example/g00327/impl.reader).txn$1 -/

def impl_reader_txn_1_loops : Nat → Option LoopSpec
  | 1000000 => some ⟨[2], [], fun _ _ _ => none⟩
  | _ => none

theorem impl_reader_txn_1_x (a0 : Int) (a1 : Int) (a2 : Int) (a3 : Int) (a4 : Bool) (a5 : ByteArray) (a6 : ByteArray) (a7 : Int) (a8 : Bool) : execFn G19 impl_reader_txn_1_loops Try.f193 [.bp 0 0, .bp 1 0] [.box [.int .i64 a0, .int .i64 a1, .int .i64 a2, .int .i64 a3, .nilS, .nilS, .bool a4, .str a5], .box [.bp 2 0], .box [.str a6, .int .i64 a7, .bool a8]] = impl_reader_txn_1_d a0 a1 a2 a3 a4 a5 a6 a7 a8 (fun (y : (Int × Int × Int × Int × Bool × ByteArray × ByteArray × Int × Bool × (List dRange))) => some ⟨.ret, [.tup []], [.box [.int .i64 y.1, .int .i64 y.2.1, .int .i64 y.2.2.1, .int .i64 y.2.2.2.1, .own 3, .nilS, .bool y.2.2.2.2.1, .str y.2.2.2.2.2.1], .box [.bp 2 0], .box [.str y.2.2.2.2.2.2.1, .int .i64 y.2.2.2.2.2.2.2.1, .bool y.2.2.2.2.2.2.2.2.1], .arr tRange y.2.2.2.2.2.2.2.2.2]⟩) := by kernel_rfl

theorem impl_reader_txn_1_y (a0 : Int) (a1 : Int) (a2 : Int) (a3 : Int) (a4 : Bool) (a5 : ByteArray) (a6 : ByteArray) (a7 : Int) (a8 : Bool) : execFn G19 impl_reader_txn_1_loops Try.f193 [.bp 0 0, .bp 1 0] [.box [.int .i64 a0, .int .i64 a1, .int .i64 a2, .int .i64 a3, .nilS, .nilS, .bool a4, .str a5], .box [.bp 2 0], .box [.str a6, .int .i64 a7, .bool a8]] = impl_reader_txn_1_k a0 a1 a2 a3 a4 a5 a6 a7 a8 (fun (y : (Int × Int × Int × Int × Bool × ByteArray × ByteArray × Int × Bool × (List dRange))) => some ⟨.ret, [.tup []], [.box [.int .i64 y.1, .int .i64 y.2.1, .int .i64 y.2.2.1, .int .i64 y.2.2.2.1, .own 3, .nilS, .bool y.2.2.2.2.1, .str y.2.2.2.2.2.1], .box [.bp 2 0], .box [.str y.2.2.2.2.2.2.1, .int .i64 y.2.2.2.2.2.2.2.1, .bool y.2.2.2.2.2.2.2.2.1], .arr tRange y.2.2.2.2.2.2.2.2.2]⟩) := (impl_reader_txn_1_x a0 a1 a2 a3 a4 a5 a6 a7 a8).trans (by rw [impl_reader_txn_1_e])

theorem impl_reader_txn_1_l : LoopsOk G19 ⟨3, 12, impl_reader_txn_1_loops⟩ (Try.f193.body.getD .skip) :=
  loopsOk_of (ids := []) (by kernel_rfl) (by kernel_rfl) trivial

def impl_reader_txn_1_7316_loops : Nat → Option LoopSpec
  | 1000000 => some ⟨[2, 3], [], fun _ _ _ => none⟩
  | _ => none

theorem impl_reader_txn_1_7316_x (a0 : Int) (a1 : Int) (a2 : Int) (a3 : Int) (a4 : Bool) (a5 : ByteArray) (a6 : (List dRange)) (a7 : ByteArray) (a8 : Int) (a9 : Bool) : execFn G19 impl_reader_txn_1_7316_loops Try.f193 [.bp 0 0, .bp 1 0] [.box [.int .i64 a0, .int .i64 a1, .int .i64 a2, .int .i64 a3, .own 2, .nilS, .bool a4, .str a5], .box [.bp 3 0], .arr tRange a6, .box [.str a7, .int .i64 a8, .bool a9]] = impl_reader_txn_1_7316_d a0 a1 a2 a3 a4 a5 a6 a7 a8 a9 (fun (y : (Int × Int × Int × Int × Bool × ByteArray × ByteArray × Int × Bool × (List dRange))) => some ⟨.ret, [.tup []], [.box [.int .i64 y.1, .int .i64 y.2.1, .int .i64 y.2.2.1, .int .i64 y.2.2.2.1, .own 4, .nilS, .bool y.2.2.2.2.1, .str y.2.2.2.2.2.1], .box [.bp 3 0], .gone, .box [.str y.2.2.2.2.2.2.1, .int .i64 y.2.2.2.2.2.2.2.1, .bool y.2.2.2.2.2.2.2.2.1], .arr tRange y.2.2.2.2.2.2.2.2.2]⟩) := by kernel_rfl

theorem impl_reader_txn_1_7316_y (a0 : Int) (a1 : Int) (a2 : Int) (a3 : Int) (a4 : Bool) (a5 : ByteArray) (a6 : (List dRange)) (a7 : ByteArray) (a8 : Int) (a9 : Bool) : execFn G19 impl_reader_txn_1_7316_loops Try.f193 [.bp 0 0, .bp 1 0] [.box [.int .i64 a0, .int .i64 a1, .int .i64 a2, .int .i64 a3, .own 2, .nilS, .bool a4, .str a5], .box [.bp 3 0], .arr tRange a6, .box [.str a7, .int .i64 a8, .bool a9]] = impl_reader_txn_1_7316_k a0 a1 a2 a3 a4 a5 a6 a7 a8 a9 (fun (y : (Int × Int × Int × Int × Bool × ByteArray × ByteArray × Int × Bool × (List dRange))) => some ⟨.ret, [.tup []], [.box [.int .i64 y.1, .int .i64 y.2.1, .int .i64 y.2.2.1, .int .i64 y.2.2.2.1, .own 4, .nilS, .bool y.2.2.2.2.1, .str y.2.2.2.2.2.1], .box [.bp 3 0], .gone, .box [.str y.2.2.2.2.2.2.1, .int .i64 y.2.2.2.2.2.2.2.1, .bool y.2.2.2.2.2.2.2.2.1], .arr tRange y.2.2.2.2.2.2.2.2.2]⟩) := (impl_reader_txn_1_7316_x a0 a1 a2 a3 a4 a5 a6 a7 a8 a9).trans (by rw [impl_reader_txn_1_7316_e])

theorem impl_reader_txn_1_7316_l : LoopsOk G19 ⟨4, 12, impl_reader_txn_1_7316_loops⟩ (Try.f193.body.getD .skip) :=
  loopsOk_of (ids := []) (by kernel_rfl) (by kernel_rfl) trivial

theorem impl_reader_txn_1_c : Contract Try.prog 193 impl_reader_txn_1_g := by
  refine told G19_ok follows Try.func193 (c := Try.f193.body.getD .skip) (by kernel_rfl) ?_
  intro args s k r hk
  unfold impl_reader_txn_1_g at hk
  rcases onPats_inv hk with ⟨p, q, rfl, rfl⟩ | hk
  · exact ⟨impl_reader_txn_1_loops, impl_reader_txn_1_q q.1.1 q.1.2.1 q.1.2.2.1 q.1.2.2.2.1 q.1.2.2.2.2.2.2.1 q.1.2.2.2.2.2.2.2.1 q.2.2.1.1 q.2.2.1.2.1 q.2.2.1.2.2.1, impl_reader_txn_1_y q.1.1 q.1.2.1 q.1.2.2.1 q.1.2.2.2.1 q.1.2.2.2.2.2.2.1 q.1.2.2.2.2.2.2.2.1 q.2.2.1.1 q.2.2.1.2.1 q.2.2.1.2.2.1, impl_reader_txn_1_l⟩
  rcases onPats_inv hk with ⟨p, q, rfl, rfl⟩ | hk
  · exact ⟨impl_reader_txn_1_7316_loops, impl_reader_txn_1_7316_q q.1.1 q.1.2.1 q.1.2.2.1 q.1.2.2.2.1 q.1.2.2.2.2.2.2.1 q.1.2.2.2.2.2.2.2.1 q.2.2.1 q.2.2.2.1.1 q.2.2.2.1.2.1 q.2.2.2.1.2.2.1, impl_reader_txn_1_7316_y q.1.1 q.1.2.1 q.1.2.2.1 q.1.2.2.2.1 q.1.2.2.2.2.2.2.1 q.1.2.2.2.2.2.2.2.1 q.2.2.1 q.2.2.2.1.1 q.2.2.2.1.2.1 q.2.2.2.1.2.2.1, impl_reader_txn_1_7316_l⟩
  cases hk

def G20 : Glob := G19.add 193 impl_reader_txn_1_g

theorem G20_ok : GlobOk Try.prog G20 := G19_ok.add ⟨Try.f193, Try.func193, by kernel_rfl, by kernel_rfl⟩ impl_reader_txn_1_c

/-! ### (*loop.example/g00327/impl.reader).flag -/

def impl_reader_flag_loops : Nat → Option LoopSpec
  | 5000004 => some ⟨[0, 2], [], fun vals st k => onPats [.bp 0 0, .bool] [.box [.str, .int .i64, .bool]] vals st (fun p q => impl_reader_flag_j5000004 (p.2.1, q.1.1, q.1.2.1, q.1.2.2.1) (fun z => k .ret [.bp 0 0, .bool z.1] [.box [.str z.2.1, .int .i64 z.2.2.1, .bool z.2.2.2]]))
      (none)⟩
  | 2000001 => some ⟨[0, 2, 4, 6, 8, 10, 12, 14, 16, 18, 20, 22, 24, 26, 28, 31, 32, 34, 36, 38, 40, 42, 44, 46, 48, 50, 52, 54, 56, 58], [], fun _ _ _ => none⟩
  | 2000005 => some ⟨[0, 2, 4, 6, 8, 10, 12, 14, 16, 18, 20, 22], [], fun _ _ _ => none⟩
  | _ => none

def impl_reader_flag_jv5000004 : (Bool × ByteArray × Int × Bool) → List AV := (fun x => [.bp 0 0, .bool x.1])
def impl_reader_flag_js5000004 : (Bool × ByteArray × Int × Bool) → St := (fun x => [.box [.str x.2.1, .int .i64 x.2.2.1, .bool x.2.2.2]])
def impl_reader_flag_je5000004 : (Bool × ByteArray × Int × Bool) → Out × List AV × St := (fun z => (.ret, [.bp 0 0, .bool z.1], [.box [.str z.2.1, .int .i64 z.2.2.1, .bool z.2.2.2]]))

theorem impl_reader_flag_jx5000004 (x : (Bool × ByteArray × Int × Bool)) : exec G20 ⟨1, 54, impl_reader_flag_loops⟩ (loopBody Try.f196 5000004) (bodyK ⟨1, 54, impl_reader_flag_loops⟩ [0, 2] []) (setEs (deads 54) [0, 2] (impl_reader_flag_jv5000004 x)) (impl_reader_flag_js5000004 x) = impl_reader_flag_j5000004 x (fun z => some ⟨(impl_reader_flag_je5000004 z).1, (impl_reader_flag_je5000004 z).2.1, (impl_reader_flag_je5000004 z).2.2⟩) := by
  kernel_rfl

theorem impl_reader_flag_lo5000004 : ∀ sp, (impl_reader_flag_loops 5000004) = some sp → CutOk G20 ⟨1, 54, impl_reader_flag_loops⟩ sp (loopBody Try.f196 5000004) := by
  intro sp hsp vals st k r h
  cases hsp
  dsimp only at h
  rcases onPats_inv2 h with ⟨p, q, rfl, rfl, h⟩ | h
  · exact cut_runs impl_reader_flag_jp5000004 impl_reader_flag_jv5000004 impl_reader_flag_js5000004 impl_reader_flag_je5000004 impl_reader_flag_jx5000004 (p.2.1, q.1.1, q.1.2.1, q.1.2.2.1) _ k r (fun z => rfl) h
  cases h

theorem impl_reader_flag_x (a0 : ByteArray) (a1 : Int) (a2 : Bool) : execFn G20 impl_reader_flag_loops Try.f196 [.bp 0 0] [.box [.str a0, .int .i64 a1, .bool a2]] = impl_reader_flag_d a0 a1 a2 (fun (y : (Bool × ByteArray × Int × Bool)) => some ⟨.ret, [.bool y.1], [.box [.str y.2.1, .int .i64 y.2.2.1, .bool y.2.2.2]]⟩) := by kernel_rfl

theorem impl_reader_flag_y (a0 : ByteArray) (a1 : Int) (a2 : Bool) : execFn G20 impl_reader_flag_loops Try.f196 [.bp 0 0] [.box [.str a0, .int .i64 a1, .bool a2]] = impl_reader_flag_k a0 a1 a2 (fun (y : (Bool × ByteArray × Int × Bool)) => some ⟨.ret, [.bool y.1], [.box [.str y.2.1, .int .i64 y.2.2.1, .bool y.2.2.2]]⟩) := (impl_reader_flag_x a0 a1 a2).trans (by rw [impl_reader_flag_e])

theorem impl_reader_flag_l : LoopsOk G20 ⟨1, 54, impl_reader_flag_loops⟩ (Try.f196.body.getD .skip) :=
  loopsOk_of (ids := [5000004]) (by kernel_rfl) (by kernel_rfl) ⟨impl_reader_flag_lo5000004, trivial⟩

theorem impl_reader_flag_c : Contract Try.prog 196 impl_reader_flag_g := by
  refine told G20_ok follows Try.func196 (c := Try.f196.body.getD .skip) (by kernel_rfl) ?_
  intro args s k r hk
  unfold impl_reader_flag_g at hk
  rcases onPats_inv hk with ⟨p, q, rfl, rfl⟩ | hk
  · exact ⟨impl_reader_flag_loops, impl_reader_flag_q q.1.1 q.1.2.1 q.1.2.2.1, impl_reader_flag_y q.1.1 q.1.2.1 q.1.2.2.1, impl_reader_flag_l⟩
  cases hk

def G21 : Glob := G20.add 196 impl_reader_flag_g

theorem G21_ok : GlobOk Try.prog G21 := G20_ok.add ⟨Try.f196, Try.func196, by kernel_rfl, by kernel_rfl⟩ impl_reader_flag_c

/-! ### (*loop.example/g00327/impl.reader).txn$2 -/

def impl_reader_txn_2_loops : Nat → Option LoopSpec
  | 1000000 => some ⟨[2], [], fun _ _ _ => none⟩
  | _ => none

theorem impl_reader_txn_2_x (a0 : Int) (a1 : Int) (a2 : Int) (a3 : Int) (a4 : Bool) (a5 : ByteArray) (a6 : ByteArray) (a7 : Int) (a8 : Bool) (a9 : (List dRange)) : execFn G21 impl_reader_txn_2_loops Try.f195 [.bp 0 0, .bp 1 0] [.box [.bp 2 0], .box [.int .i64 a0, .int .i64 a1, .int .i64 a2, .int .i64 a3, .own 3, .nilS, .bool a4, .str a5], .box [.str a6, .int .i64 a7, .bool a8], .arr tRange a9] = impl_reader_txn_2_d a0 a1 a2 a3 a4 a5 a6 a7 a8 a9 (fun (y : (Int × Int × Int × Int × Bool × ByteArray × ByteArray × Int × Bool × (List dRange) × (List dWrite))) => some ⟨.ret, [.tup []], [.box [.bp 2 0], .box [.int .i64 y.1, .int .i64 y.2.1, .int .i64 y.2.2.1, .int .i64 y.2.2.2.1, .own 3, .own 4, .bool y.2.2.2.2.1, .str y.2.2.2.2.2.1], .box [.str y.2.2.2.2.2.2.1, .int .i64 y.2.2.2.2.2.2.2.1, .bool y.2.2.2.2.2.2.2.2.1], .arr tRange y.2.2.2.2.2.2.2.2.2.1, .arr tWrite y.2.2.2.2.2.2.2.2.2.2]⟩) := by kernel_rfl

theorem impl_reader_txn_2_y (a0 : Int) (a1 : Int) (a2 : Int) (a3 : Int) (a4 : Bool) (a5 : ByteArray) (a6 : ByteArray) (a7 : Int) (a8 : Bool) (a9 : (List dRange)) : execFn G21 impl_reader_txn_2_loops Try.f195 [.bp 0 0, .bp 1 0] [.box [.bp 2 0], .box [.int .i64 a0, .int .i64 a1, .int .i64 a2, .int .i64 a3, .own 3, .nilS, .bool a4, .str a5], .box [.str a6, .int .i64 a7, .bool a8], .arr tRange a9] = impl_reader_txn_2_k a0 a1 a2 a3 a4 a5 a6 a7 a8 a9 (fun (y : (Int × Int × Int × Int × Bool × ByteArray × ByteArray × Int × Bool × (List dRange) × (List dWrite))) => some ⟨.ret, [.tup []], [.box [.bp 2 0], .box [.int .i64 y.1, .int .i64 y.2.1, .int .i64 y.2.2.1, .int .i64 y.2.2.2.1, .own 3, .own 4, .bool y.2.2.2.2.1, .str y.2.2.2.2.2.1], .box [.str y.2.2.2.2.2.2.1, .int .i64 y.2.2.2.2.2.2.2.1, .bool y.2.2.2.2.2.2.2.2.1], .arr tRange y.2.2.2.2.2.2.2.2.2.1, .arr tWrite y.2.2.2.2.2.2.2.2.2.2]⟩) := (impl_reader_txn_2_x a0 a1 a2 a3 a4 a5 a6 a7 a8 a9).trans (by rw [impl_reader_txn_2_e])

theorem impl_reader_txn_2_l : LoopsOk G21 ⟨4, 17, impl_reader_txn_2_loops⟩ (Try.f195.body.getD .skip) :=
  loopsOk_of (ids := []) (by kernel_rfl) (by kernel_rfl) trivial

def impl_reader_txn_2_fd82_loops : Nat → Option LoopSpec
  | 1000000 => some ⟨[2], [], fun _ _ _ => none⟩
  | _ => none

theorem impl_reader_txn_2_fd82_x (a0 : Int) (a1 : Int) (a2 : Int) (a3 : Int) (a4 : Bool) (a5 : ByteArray) (a6 : ByteArray) (a7 : Int) (a8 : Bool) (a9 : (List dRange)) (a10 : (List dWrite)) : execFn G21 impl_reader_txn_2_fd82_loops Try.f195 [.bp 0 0, .bp 1 0] [.box [.bp 2 0], .box [.int .i64 a0, .int .i64 a1, .int .i64 a2, .int .i64 a3, .own 3, .own 4, .bool a4, .str a5], .box [.str a6, .int .i64 a7, .bool a8], .arr tRange a9, .arr tWrite a10] = impl_reader_txn_2_fd82_d a0 a1 a2 a3 a4 a5 a6 a7 a8 a9 a10 (fun (y : (Int × Int × Int × Int × Bool × ByteArray × ByteArray × Int × Bool × (List dRange) × (List dWrite))) => some ⟨.ret, [.tup []], [.box [.bp 2 0], .box [.int .i64 y.1, .int .i64 y.2.1, .int .i64 y.2.2.1, .int .i64 y.2.2.2.1, .own 3, .own 5, .bool y.2.2.2.2.1, .str y.2.2.2.2.2.1], .box [.str y.2.2.2.2.2.2.1, .int .i64 y.2.2.2.2.2.2.2.1, .bool y.2.2.2.2.2.2.2.2.1], .arr tRange y.2.2.2.2.2.2.2.2.2.1, .gone, .arr tWrite y.2.2.2.2.2.2.2.2.2.2]⟩) := by kernel_rfl

theorem impl_reader_txn_2_fd82_y (a0 : Int) (a1 : Int) (a2 : Int) (a3 : Int) (a4 : Bool) (a5 : ByteArray) (a6 : ByteArray) (a7 : Int) (a8 : Bool) (a9 : (List dRange)) (a10 : (List dWrite)) : execFn G21 impl_reader_txn_2_fd82_loops Try.f195 [.bp 0 0, .bp 1 0] [.box [.bp 2 0], .box [.int .i64 a0, .int .i64 a1, .int .i64 a2, .int .i64 a3, .own 3, .own 4, .bool a4, .str a5], .box [.str a6, .int .i64 a7, .bool a8], .arr tRange a9, .arr tWrite a10] = impl_reader_txn_2_fd82_k a0 a1 a2 a3 a4 a5 a6 a7 a8 a9 a10 (fun (y : (Int × Int × Int × Int × Bool × ByteArray × ByteArray × Int × Bool × (List dRange) × (List dWrite))) => some ⟨.ret, [.tup []], [.box [.bp 2 0], .box [.int .i64 y.1, .int .i64 y.2.1, .int .i64 y.2.2.1, .int .i64 y.2.2.2.1, .own 3, .own 5, .bool y.2.2.2.2.1, .str y.2.2.2.2.2.1], .box [.str y.2.2.2.2.2.2.1, .int .i64 y.2.2.2.2.2.2.2.1, .bool y.2.2.2.2.2.2.2.2.1], .arr tRange y.2.2.2.2.2.2.2.2.2.1, .gone, .arr tWrite y.2.2.2.2.2.2.2.2.2.2]⟩) := (impl_reader_txn_2_fd82_x a0 a1 a2 a3 a4 a5 a6 a7 a8 a9 a10).trans (by rw [impl_reader_txn_2_fd82_e])

theorem impl_reader_txn_2_fd82_l : LoopsOk G21 ⟨5, 17, impl_reader_txn_2_fd82_loops⟩ (Try.f195.body.getD .skip) :=
  loopsOk_of (ids := []) (by kernel_rfl) (by kernel_rfl) trivial

theorem impl_reader_txn_2_c : Contract Try.prog 195 impl_reader_txn_2_g := by
  refine told G21_ok follows Try.func195 (c := Try.f195.body.getD .skip) (by kernel_rfl) ?_
  intro args s k r hk
  unfold impl_reader_txn_2_g at hk
  rcases onPats_inv hk with ⟨p, q, rfl, rfl⟩ | hk
  · exact ⟨impl_reader_txn_2_loops, impl_reader_txn_2_q q.2.1.1 q.2.1.2.1 q.2.1.2.2.1 q.2.1.2.2.2.1 q.2.1.2.2.2.2.2.2.1 q.2.1.2.2.2.2.2.2.2.1 q.2.2.1.1 q.2.2.1.2.1 q.2.2.1.2.2.1 q.2.2.2.1, impl_reader_txn_2_y q.2.1.1 q.2.1.2.1 q.2.1.2.2.1 q.2.1.2.2.2.1 q.2.1.2.2.2.2.2.2.1 q.2.1.2.2.2.2.2.2.2.1 q.2.2.1.1 q.2.2.1.2.1 q.2.2.1.2.2.1 q.2.2.2.1, impl_reader_txn_2_l⟩
  rcases onPats_inv hk with ⟨p, q, rfl, rfl⟩ | hk
  · exact ⟨impl_reader_txn_2_fd82_loops, impl_reader_txn_2_fd82_q q.2.1.1 q.2.1.2.1 q.2.1.2.2.1 q.2.1.2.2.2.1 q.2.1.2.2.2.2.2.2.1 q.2.1.2.2.2.2.2.2.2.1 q.2.2.1.1 q.2.2.1.2.1 q.2.2.1.2.2.1 q.2.2.2.1 q.2.2.2.2.1, impl_reader_txn_2_fd82_y q.2.1.1 q.2.1.2.1 q.2.1.2.2.1 q.2.1.2.2.2.1 q.2.1.2.2.2.2.2.2.1 q.2.1.2.2.2.2.2.2.2.1 q.2.2.1.1 q.2.2.1.2.1 q.2.2.1.2.2.1 q.2.2.2.1 q.2.2.2.2.1, impl_reader_txn_2_fd82_l⟩
  cases hk

def G22 : Glob := G21.add 195 impl_reader_txn_2_g

theorem G22_ok : GlobOk Try.prog G22 := G21_ok.add ⟨Try.f195, Try.func195, by kernel_rfl, by kernel_rfl⟩ impl_reader_txn_2_c

/-! ### (*loop.example/g00327/impl.reader).each -/

def impl_reader_each_reader_txn_1_loops : Nat → Option LoopSpec
  | 6000001 => some ⟨[0, 1, 4, 5], [none, none, none, none, none, none, none, none, none, none, none, some tRange], fun vals st k => onPats [.bp 0 0, .fn 193 [.bp 1 0, .bp 2 0], .int .i64, .int .i64] [.box [.str, .int .i64, .bool], .box [.int .i64, .int .i64, .int .i64, .int .i64, .own 3, .nilS, .bool, .str], .box [.bp 0 0], .arr tRange] vals st (fun p q => impl_reader_each_reader_txn_1_j6000001 (p.2.2.1, p.2.2.2.1, q.1.1, q.1.2.1, q.1.2.2.1, q.2.1.1, q.2.1.2.1, q.2.1.2.2.1, q.2.1.2.2.2.1, q.2.1.2.2.2.2.2.2.1, q.2.1.2.2.2.2.2.2.2.1, q.2.2.2.1) (fun z => k .norm [.bp 0 0, .fn 193 [.bp 1 0, .bp 2 0], .int .i64 z.1, .int .i64 z.2.1] [.box [.str z.2.2.1, .int .i64 z.2.2.2.1, .bool z.2.2.2.2.1], .box [.int .i64 z.2.2.2.2.2.1, .int .i64 z.2.2.2.2.2.2.1, .int .i64 z.2.2.2.2.2.2.2.1, .int .i64 z.2.2.2.2.2.2.2.2.1, .own 3, .nilS, .bool z.2.2.2.2.2.2.2.2.2.1, .str z.2.2.2.2.2.2.2.2.2.2.1], .box [.bp 0 0], .arr tRange z.2.2.2.2.2.2.2.2.2.2.2]))
      (none)⟩
  | 0 => some ⟨[0, 1, 4, 5], [none, none, none, none, none, none, none, none, none, none, none, some tRange], fun vals st k => onPats [.bp 0 0, .fn 193 [.bp 1 0, .bp 2 0], .int .i64, .int .i64] [.box [.str, .int .i64, .bool], .box [.int .i64, .int .i64, .int .i64, .int .i64, .own 3, .nilS, .bool, .str], .box [.bp 0 0], .arr tRange] vals st (fun p q => loopK impl_reader_each_reader_txn_1_b0 Fuel (p.2.2.1, p.2.2.2.1, q.1.1, q.1.2.1, q.1.2.2.1, q.2.1.1, q.2.1.2.1, q.2.1.2.2.1, q.2.1.2.2.2.1, q.2.1.2.2.2.2.2.2.1, q.2.1.2.2.2.2.2.2.2.1, q.2.2.2.1) (fun z => k (.exit 0) [.bp 0 0, .fn 193 [.bp 1 0, .bp 2 0], .int .i64 z.1, .int .i64 z.2.1] [.box [.str z.2.2.1, .int .i64 z.2.2.2.1, .bool z.2.2.2.2.1], .box [.int .i64 z.2.2.2.2.2.1, .int .i64 z.2.2.2.2.2.2.1, .int .i64 z.2.2.2.2.2.2.2.1, .int .i64 z.2.2.2.2.2.2.2.2.1, .own 3, .nilS, .bool z.2.2.2.2.2.2.2.2.2.1, .str z.2.2.2.2.2.2.2.2.2.2.1], .box [.bp 0 0], .arr tRange z.2.2.2.2.2.2.2.2.2.2.2]))
      (none)⟩
  | 3000000 => some ⟨[], [none, none, none, none, none, none, none, some tRange], fun _ _ _ => none⟩
  | _ => none

def impl_reader_each_reader_txn_1_jv6000001 : (Int × Int × ByteArray × Int × Bool × Int × Int × Int × Int × Bool × ByteArray × (List dRange)) → List AV := (fun x => [.bp 0 0, .fn 193 [.bp 1 0, .bp 2 0], .int .i64 x.1, .int .i64 x.2.1])
def impl_reader_each_reader_txn_1_js6000001 : (Int × Int × ByteArray × Int × Bool × Int × Int × Int × Int × Bool × ByteArray × (List dRange)) → St := (fun x => [.box [.str x.2.2.1, .int .i64 x.2.2.2.1, .bool x.2.2.2.2.1], .box [.int .i64 x.2.2.2.2.2.1, .int .i64 x.2.2.2.2.2.2.1, .int .i64 x.2.2.2.2.2.2.2.1, .int .i64 x.2.2.2.2.2.2.2.2.1, .own 3, .nilS, .bool x.2.2.2.2.2.2.2.2.2.1, .str x.2.2.2.2.2.2.2.2.2.2.1], .box [.bp 0 0], .arr tRange x.2.2.2.2.2.2.2.2.2.2.2])
def impl_reader_each_reader_txn_1_je6000001 : (Int × Int × ByteArray × Int × Bool × Int × Int × Int × Int × Bool × ByteArray × (List dRange)) → Out × List AV × St := (fun z => (.norm, [.bp 0 0, .fn 193 [.bp 1 0, .bp 2 0], .int .i64 z.1, .int .i64 z.2.1], [.box [.str z.2.2.1, .int .i64 z.2.2.2.1, .bool z.2.2.2.2.1], .box [.int .i64 z.2.2.2.2.2.1, .int .i64 z.2.2.2.2.2.2.1, .int .i64 z.2.2.2.2.2.2.2.1, .int .i64 z.2.2.2.2.2.2.2.2.1, .own 3, .nilS, .bool z.2.2.2.2.2.2.2.2.2.1, .str z.2.2.2.2.2.2.2.2.2.2.1], .box [.bp 0 0], .arr tRange z.2.2.2.2.2.2.2.2.2.2.2]))

theorem impl_reader_each_reader_txn_1_jx6000001 (x : (Int × Int × ByteArray × Int × Bool × Int × Int × Int × Int × Bool × ByteArray × (List dRange))) : exec G22 ⟨3, 22, impl_reader_each_reader_txn_1_loops⟩ (loopBody Try.f192 6000001) (bodyK ⟨3, 22, impl_reader_each_reader_txn_1_loops⟩ [0, 1, 4, 5] [none, none, none, none, none, none, none, none, none, none, none, some tRange]) (setEs (deads 22) [0, 1, 4, 5] (impl_reader_each_reader_txn_1_jv6000001 x)) (impl_reader_each_reader_txn_1_js6000001 x) = impl_reader_each_reader_txn_1_j6000001 x (fun z => some ⟨(impl_reader_each_reader_txn_1_je6000001 z).1, (impl_reader_each_reader_txn_1_je6000001 z).2.1, (impl_reader_each_reader_txn_1_je6000001 z).2.2⟩) := by
  kernel_rfl

theorem impl_reader_each_reader_txn_1_lo6000001 : ∀ sp, (impl_reader_each_reader_txn_1_loops 6000001) = some sp → CutOk G22 ⟨3, 22, impl_reader_each_reader_txn_1_loops⟩ sp (loopBody Try.f192 6000001) := by
  intro sp hsp vals st k r h
  cases hsp
  dsimp only at h
  rcases onPats_inv2 h with ⟨p, q, rfl, rfl, h⟩ | h
  · exact cut_runs impl_reader_each_reader_txn_1_jp6000001 impl_reader_each_reader_txn_1_jv6000001 impl_reader_each_reader_txn_1_js6000001 impl_reader_each_reader_txn_1_je6000001 impl_reader_each_reader_txn_1_jx6000001 (p.2.2.1, p.2.2.2.1, q.1.1, q.1.2.1, q.1.2.2.1, q.2.1.1, q.2.1.2.1, q.2.1.2.2.1, q.2.1.2.2.2.1, q.2.1.2.2.2.2.2.2.1, q.2.1.2.2.2.2.2.2.2.1, q.2.2.2.1) _ k r (fun z => rfl) h
  cases h

def impl_reader_each_reader_txn_1_v0 : (Int × Int × ByteArray × Int × Bool × Int × Int × Int × Int × Bool × ByteArray × (List dRange)) → List AV := (fun x => [.bp 0 0, .fn 193 [.bp 1 0, .bp 2 0], .int .i64 x.1, .int .i64 x.2.1])
def impl_reader_each_reader_txn_1_s0 : (Int × Int × ByteArray × Int × Bool × Int × Int × Int × Int × Bool × ByteArray × (List dRange)) → St := (fun x => [.box [.str x.2.2.1, .int .i64 x.2.2.2.1, .bool x.2.2.2.2.1], .box [.int .i64 x.2.2.2.2.2.1, .int .i64 x.2.2.2.2.2.2.1, .int .i64 x.2.2.2.2.2.2.2.1, .int .i64 x.2.2.2.2.2.2.2.2.1, .own 3, .nilS, .bool x.2.2.2.2.2.2.2.2.2.1, .str x.2.2.2.2.2.2.2.2.2.2.1], .box [.bp 0 0], .arr tRange x.2.2.2.2.2.2.2.2.2.2.2])
def impl_reader_each_reader_txn_1_e0 : (Int × Int × ByteArray × Int × Bool × Int × Int × Int × Int × Bool × ByteArray × (List dRange)) → Out × List AV × St := (fun z => ((.exit 0), [.bp 0 0, .fn 193 [.bp 1 0, .bp 2 0], .int .i64 z.1, .int .i64 z.2.1], [.box [.str z.2.2.1, .int .i64 z.2.2.2.1, .bool z.2.2.2.2.1], .box [.int .i64 z.2.2.2.2.2.1, .int .i64 z.2.2.2.2.2.2.1, .int .i64 z.2.2.2.2.2.2.2.1, .int .i64 z.2.2.2.2.2.2.2.2.1, .own 3, .nilS, .bool z.2.2.2.2.2.2.2.2.2.1, .str z.2.2.2.2.2.2.2.2.2.2.1], .box [.bp 0 0], .arr tRange z.2.2.2.2.2.2.2.2.2.2.2]))

theorem impl_reader_each_reader_txn_1_bx0 (x : (Int × Int × ByteArray × Int × Bool × Int × Int × Int × Int × Bool × ByteArray × (List dRange))) : exec G22 ⟨3, 22, impl_reader_each_reader_txn_1_loops⟩ (loopBody Try.f192 0) (bodyK ⟨3, 22, impl_reader_each_reader_txn_1_loops⟩ [0, 1, 4, 5] [none, none, none, none, none, none, none, none, none, none, none, some tRange]) (setEs (deads 22) [0, 1, 4, 5] (impl_reader_each_reader_txn_1_v0 x)) (impl_reader_each_reader_txn_1_s0 x) = impl_reader_each_reader_txn_1_b0 x (Sum.elim (fun y => some ⟨.norm, impl_reader_each_reader_txn_1_v0 y, impl_reader_each_reader_txn_1_s0 y⟩) fun z => some ⟨(impl_reader_each_reader_txn_1_e0 z).1, (impl_reader_each_reader_txn_1_e0 z).2.1, (impl_reader_each_reader_txn_1_e0 z).2.2⟩) := by
  kernel_rfl

theorem impl_reader_each_reader_txn_1_lo0 : ∀ sp, (impl_reader_each_reader_txn_1_loops 0) = some sp → LoopOk G22 ⟨3, 22, impl_reader_each_reader_txn_1_loops⟩ sp (loopBody Try.f192 0) := by
  intro sp hsp vals st k r h
  cases hsp
  dsimp only at h
  rcases onPats_inv2 h with ⟨p, q, rfl, rfl, h⟩ | h
  · exact loop_runs2 impl_reader_each_reader_txn_1_bp0 impl_reader_each_reader_txn_1_v0 impl_reader_each_reader_txn_1_s0 impl_reader_each_reader_txn_1_e0 (fun z => by (intro h; cases h)) impl_reader_each_reader_txn_1_bx0 Fuel (p.2.2.1, p.2.2.2.1, q.1.1, q.1.2.1, q.1.2.2.1, q.2.1.1, q.2.1.2.1, q.2.1.2.2.1, q.2.1.2.2.2.1, q.2.1.2.2.2.2.2.2.1, q.2.1.2.2.2.2.2.2.2.1, q.2.2.2.1) _ k r (fun z => rfl) h
  cases h

theorem impl_reader_each_reader_txn_1_x (a0 : ByteArray) (a1 : Int) (a2 : Bool) (a3 : Int) (a4 : Int) (a5 : Int) (a6 : Int) (a7 : Bool) (a8 : ByteArray) : execFn G22 impl_reader_each_reader_txn_1_loops Try.f192 [.bp 0 0, .fn 193 [.bp 1 0, .bp 2 0]] [.box [.str a0, .int .i64 a1, .bool a2], .box [.int .i64 a3, .int .i64 a4, .int .i64 a5, .int .i64 a6, .nilS, .nilS, .bool a7, .str a8], .box [.bp 0 0]] = impl_reader_each_reader_txn_1_d a0 a1 a2 a3 a4 a5 a6 a7 a8 (fun (y : (ByteArray × Int × Bool × Int × Int × Int × Int × Bool × ByteArray × (List dRange))) => some ⟨.ret, [.tup []], [.box [.str y.1, .int .i64 y.2.1, .bool y.2.2.1], .box [.int .i64 y.2.2.2.1, .int .i64 y.2.2.2.2.1, .int .i64 y.2.2.2.2.2.1, .int .i64 y.2.2.2.2.2.2.1, .own 3, .nilS, .bool y.2.2.2.2.2.2.2.1, .str y.2.2.2.2.2.2.2.2.1], .box [.bp 0 0], .arr tRange y.2.2.2.2.2.2.2.2.2]⟩) := by kernel_rfl

theorem impl_reader_each_reader_txn_1_y (a0 : ByteArray) (a1 : Int) (a2 : Bool) (a3 : Int) (a4 : Int) (a5 : Int) (a6 : Int) (a7 : Bool) (a8 : ByteArray) : execFn G22 impl_reader_each_reader_txn_1_loops Try.f192 [.bp 0 0, .fn 193 [.bp 1 0, .bp 2 0]] [.box [.str a0, .int .i64 a1, .bool a2], .box [.int .i64 a3, .int .i64 a4, .int .i64 a5, .int .i64 a6, .nilS, .nilS, .bool a7, .str a8], .box [.bp 0 0]] = impl_reader_each_reader_txn_1_k a0 a1 a2 a3 a4 a5 a6 a7 a8 (fun (y : (ByteArray × Int × Bool × Int × Int × Int × Int × Bool × ByteArray × (List dRange))) => some ⟨.ret, [.tup []], [.box [.str y.1, .int .i64 y.2.1, .bool y.2.2.1], .box [.int .i64 y.2.2.2.1, .int .i64 y.2.2.2.2.1, .int .i64 y.2.2.2.2.2.1, .int .i64 y.2.2.2.2.2.2.1, .own 3, .nilS, .bool y.2.2.2.2.2.2.2.1, .str y.2.2.2.2.2.2.2.2.1], .box [.bp 0 0], .arr tRange y.2.2.2.2.2.2.2.2.2]⟩) := (impl_reader_each_reader_txn_1_x a0 a1 a2 a3 a4 a5 a6 a7 a8).trans (by rw [impl_reader_each_reader_txn_1_e])

theorem impl_reader_each_reader_txn_1_l : LoopsOk G22 ⟨3, 22, impl_reader_each_reader_txn_1_loops⟩ (Try.f192.body.getD .skip) :=
  loopsOk_of (ids := [6000001, 0]) (by kernel_rfl) (by kernel_rfl) ⟨impl_reader_each_reader_txn_1_lo6000001, ⟨impl_reader_each_reader_txn_1_lo0, trivial⟩⟩

def impl_reader_each_reader_txn_2_loops : Nat → Option LoopSpec
  | 6000001 => some ⟨[0, 1, 4, 5], [none, none, none, none, none, none, none, none, none, none, none, none, none, some tWrite], fun vals st k => onPats [.bp 0 0, .fn 195 [.bp 1 0, .bp 2 0], .int .i64, .int .i64] [.box [.str, .int .i64, .bool], .box [.bp 0 0], .box [.int .i64, .int .i64, .int .i64, .int .i64, .own 3, .own 4, .bool, .str], .arr tRange, .arr tWrite] vals st (fun p q => impl_reader_each_reader_txn_2_j6000001 (p.2.2.1, p.2.2.2.1, q.1.1, q.1.2.1, q.1.2.2.1, q.2.2.1.1, q.2.2.1.2.1, q.2.2.1.2.2.1, q.2.2.1.2.2.2.1, q.2.2.1.2.2.2.2.2.2.1, q.2.2.1.2.2.2.2.2.2.2.1, q.2.2.2.1, q.2.2.2.2.1) (fun z => k .norm [.bp 0 0, .fn 195 [.bp 1 0, .bp 2 0], .int .i64 z.1, .int .i64 z.2.1] [.box [.str z.2.2.1, .int .i64 z.2.2.2.1, .bool z.2.2.2.2.1], .box [.bp 0 0], .box [.int .i64 z.2.2.2.2.2.1, .int .i64 z.2.2.2.2.2.2.1, .int .i64 z.2.2.2.2.2.2.2.1, .int .i64 z.2.2.2.2.2.2.2.2.1, .own 3, .own 4, .bool z.2.2.2.2.2.2.2.2.2.1, .str z.2.2.2.2.2.2.2.2.2.2.1], .arr tRange z.2.2.2.2.2.2.2.2.2.2.2.1, .arr tWrite z.2.2.2.2.2.2.2.2.2.2.2.2]))
      (none)⟩
  | 0 => some ⟨[0, 1, 4, 5], [none, none, none, none, none, none, none, none, none, none, none, none, none, some tWrite], fun vals st k => onPats [.bp 0 0, .fn 195 [.bp 1 0, .bp 2 0], .int .i64, .int .i64] [.box [.str, .int .i64, .bool], .box [.bp 0 0], .box [.int .i64, .int .i64, .int .i64, .int .i64, .own 3, .own 4, .bool, .str], .arr tRange, .arr tWrite] vals st (fun p q => loopK impl_reader_each_reader_txn_2_b0 Fuel (p.2.2.1, p.2.2.2.1, q.1.1, q.1.2.1, q.1.2.2.1, q.2.2.1.1, q.2.2.1.2.1, q.2.2.1.2.2.1, q.2.2.1.2.2.2.1, q.2.2.1.2.2.2.2.2.2.1, q.2.2.1.2.2.2.2.2.2.2.1, q.2.2.2.1, q.2.2.2.2.1) (fun z => k (.exit 0) [.bp 0 0, .fn 195 [.bp 1 0, .bp 2 0], .int .i64 z.1, .int .i64 z.2.1] [.box [.str z.2.2.1, .int .i64 z.2.2.2.1, .bool z.2.2.2.2.1], .box [.bp 0 0], .box [.int .i64 z.2.2.2.2.2.1, .int .i64 z.2.2.2.2.2.2.1, .int .i64 z.2.2.2.2.2.2.2.1, .int .i64 z.2.2.2.2.2.2.2.2.1, .own 3, .own 4, .bool z.2.2.2.2.2.2.2.2.2.1, .str z.2.2.2.2.2.2.2.2.2.2.1], .arr tRange z.2.2.2.2.2.2.2.2.2.2.2.1, .arr tWrite z.2.2.2.2.2.2.2.2.2.2.2.2]))
      (none)⟩
  | 3000000 => some ⟨[], [none, none, none, none, none, none, none, none, none, some tWrite], fun _ _ _ => none⟩
  | _ => none

def impl_reader_each_reader_txn_2_jv6000001 : (Int × Int × ByteArray × Int × Bool × Int × Int × Int × Int × Bool × ByteArray × (List dRange) × (List dWrite)) → List AV := (fun x => [.bp 0 0, .fn 195 [.bp 1 0, .bp 2 0], .int .i64 x.1, .int .i64 x.2.1])
def impl_reader_each_reader_txn_2_js6000001 : (Int × Int × ByteArray × Int × Bool × Int × Int × Int × Int × Bool × ByteArray × (List dRange) × (List dWrite)) → St := (fun x => [.box [.str x.2.2.1, .int .i64 x.2.2.2.1, .bool x.2.2.2.2.1], .box [.bp 0 0], .box [.int .i64 x.2.2.2.2.2.1, .int .i64 x.2.2.2.2.2.2.1, .int .i64 x.2.2.2.2.2.2.2.1, .int .i64 x.2.2.2.2.2.2.2.2.1, .own 3, .own 4, .bool x.2.2.2.2.2.2.2.2.2.1, .str x.2.2.2.2.2.2.2.2.2.2.1], .arr tRange x.2.2.2.2.2.2.2.2.2.2.2.1, .arr tWrite x.2.2.2.2.2.2.2.2.2.2.2.2])
def impl_reader_each_reader_txn_2_je6000001 : (Int × Int × ByteArray × Int × Bool × Int × Int × Int × Int × Bool × ByteArray × (List dRange) × (List dWrite)) → Out × List AV × St := (fun z => (.norm, [.bp 0 0, .fn 195 [.bp 1 0, .bp 2 0], .int .i64 z.1, .int .i64 z.2.1], [.box [.str z.2.2.1, .int .i64 z.2.2.2.1, .bool z.2.2.2.2.1], .box [.bp 0 0], .box [.int .i64 z.2.2.2.2.2.1, .int .i64 z.2.2.2.2.2.2.1, .int .i64 z.2.2.2.2.2.2.2.1, .int .i64 z.2.2.2.2.2.2.2.2.1, .own 3, .own 4, .bool z.2.2.2.2.2.2.2.2.2.1, .str z.2.2.2.2.2.2.2.2.2.2.1], .arr tRange z.2.2.2.2.2.2.2.2.2.2.2.1, .arr tWrite z.2.2.2.2.2.2.2.2.2.2.2.2]))

theorem impl_reader_each_reader_txn_2_jx6000001 (x : (Int × Int × ByteArray × Int × Bool × Int × Int × Int × Int × Bool × ByteArray × (List dRange) × (List dWrite))) : exec G22 ⟨4, 22, impl_reader_each_reader_txn_2_loops⟩ (loopBody Try.f192 6000001) (bodyK ⟨4, 22, impl_reader_each_reader_txn_2_loops⟩ [0, 1, 4, 5] [none, none, none, none, none, none, none, none, none, none, none, none, none, some tWrite]) (setEs (deads 22) [0, 1, 4, 5] (impl_reader_each_reader_txn_2_jv6000001 x)) (impl_reader_each_reader_txn_2_js6000001 x) = impl_reader_each_reader_txn_2_j6000001 x (fun z => some ⟨(impl_reader_each_reader_txn_2_je6000001 z).1, (impl_reader_each_reader_txn_2_je6000001 z).2.1, (impl_reader_each_reader_txn_2_je6000001 z).2.2⟩) := by
  kernel_rfl

theorem impl_reader_each_reader_txn_2_lo6000001 : ∀ sp, (impl_reader_each_reader_txn_2_loops 6000001) = some sp → CutOk G22 ⟨4, 22, impl_reader_each_reader_txn_2_loops⟩ sp (loopBody Try.f192 6000001) := by
  intro sp hsp vals st k r h
  cases hsp
  dsimp only at h
  rcases onPats_inv2 h with ⟨p, q, rfl, rfl, h⟩ | h
  · exact cut_runs impl_reader_each_reader_txn_2_jp6000001 impl_reader_each_reader_txn_2_jv6000001 impl_reader_each_reader_txn_2_js6000001 impl_reader_each_reader_txn_2_je6000001 impl_reader_each_reader_txn_2_jx6000001 (p.2.2.1, p.2.2.2.1, q.1.1, q.1.2.1, q.1.2.2.1, q.2.2.1.1, q.2.2.1.2.1, q.2.2.1.2.2.1, q.2.2.1.2.2.2.1, q.2.2.1.2.2.2.2.2.2.1, q.2.2.1.2.2.2.2.2.2.2.1, q.2.2.2.1, q.2.2.2.2.1) _ k r (fun z => rfl) h
  cases h

def impl_reader_each_reader_txn_2_v0 : (Int × Int × ByteArray × Int × Bool × Int × Int × Int × Int × Bool × ByteArray × (List dRange) × (List dWrite)) → List AV := (fun x => [.bp 0 0, .fn 195 [.bp 1 0, .bp 2 0], .int .i64 x.1, .int .i64 x.2.1])
def impl_reader_each_reader_txn_2_s0 : (Int × Int × ByteArray × Int × Bool × Int × Int × Int × Int × Bool × ByteArray × (List dRange) × (List dWrite)) → St := (fun x => [.box [.str x.2.2.1, .int .i64 x.2.2.2.1, .bool x.2.2.2.2.1], .box [.bp 0 0], .box [.int .i64 x.2.2.2.2.2.1, .int .i64 x.2.2.2.2.2.2.1, .int .i64 x.2.2.2.2.2.2.2.1, .int .i64 x.2.2.2.2.2.2.2.2.1, .own 3, .own 4, .bool x.2.2.2.2.2.2.2.2.2.1, .str x.2.2.2.2.2.2.2.2.2.2.1], .arr tRange x.2.2.2.2.2.2.2.2.2.2.2.1, .arr tWrite x.2.2.2.2.2.2.2.2.2.2.2.2])
def impl_reader_each_reader_txn_2_e0 : (Int × Int × ByteArray × Int × Bool × Int × Int × Int × Int × Bool × ByteArray × (List dRange) × (List dWrite)) → Out × List AV × St := (fun z => ((.exit 0), [.bp 0 0, .fn 195 [.bp 1 0, .bp 2 0], .int .i64 z.1, .int .i64 z.2.1], [.box [.str z.2.2.1, .int .i64 z.2.2.2.1, .bool z.2.2.2.2.1], .box [.bp 0 0], .box [.int .i64 z.2.2.2.2.2.1, .int .i64 z.2.2.2.2.2.2.1, .int .i64 z.2.2.2.2.2.2.2.1, .int .i64 z.2.2.2.2.2.2.2.2.1, .own 3, .own 4, .bool z.2.2.2.2.2.2.2.2.2.1, .str z.2.2.2.2.2.2.2.2.2.2.1], .arr tRange z.2.2.2.2.2.2.2.2.2.2.2.1, .arr tWrite z.2.2.2.2.2.2.2.2.2.2.2.2]))

theorem impl_reader_each_reader_txn_2_bx0 (x : (Int × Int × ByteArray × Int × Bool × Int × Int × Int × Int × Bool × ByteArray × (List dRange) × (List dWrite))) : exec G22 ⟨4, 22, impl_reader_each_reader_txn_2_loops⟩ (loopBody Try.f192 0) (bodyK ⟨4, 22, impl_reader_each_reader_txn_2_loops⟩ [0, 1, 4, 5] [none, none, none, none, none, none, none, none, none, none, none, none, none, some tWrite]) (setEs (deads 22) [0, 1, 4, 5] (impl_reader_each_reader_txn_2_v0 x)) (impl_reader_each_reader_txn_2_s0 x) = impl_reader_each_reader_txn_2_b0 x (Sum.elim (fun y => some ⟨.norm, impl_reader_each_reader_txn_2_v0 y, impl_reader_each_reader_txn_2_s0 y⟩) fun z => some ⟨(impl_reader_each_reader_txn_2_e0 z).1, (impl_reader_each_reader_txn_2_e0 z).2.1, (impl_reader_each_reader_txn_2_e0 z).2.2⟩) := by
  kernel_rfl

theorem impl_reader_each_reader_txn_2_lo0 : ∀ sp, (impl_reader_each_reader_txn_2_loops 0) = some sp → LoopOk G22 ⟨4, 22, impl_reader_each_reader_txn_2_loops⟩ sp (loopBody Try.f192 0) := by
  intro sp hsp vals st k r h
  cases hsp
  dsimp only at h
  rcases onPats_inv2 h with ⟨p, q, rfl, rfl, h⟩ | h
  · exact loop_runs2 impl_reader_each_reader_txn_2_bp0 impl_reader_each_reader_txn_2_v0 impl_reader_each_reader_txn_2_s0 impl_reader_each_reader_txn_2_e0 (fun z => by (intro h; cases h)) impl_reader_each_reader_txn_2_bx0 Fuel (p.2.2.1, p.2.2.2.1, q.1.1, q.1.2.1, q.1.2.2.1, q.2.2.1.1, q.2.2.1.2.1, q.2.2.1.2.2.1, q.2.2.1.2.2.2.1, q.2.2.1.2.2.2.2.2.2.1, q.2.2.1.2.2.2.2.2.2.2.1, q.2.2.2.1, q.2.2.2.2.1) _ k r (fun z => rfl) h
  cases h

theorem impl_reader_each_reader_txn_2_x (a0 : ByteArray) (a1 : Int) (a2 : Bool) (a3 : Int) (a4 : Int) (a5 : Int) (a6 : Int) (a7 : Bool) (a8 : ByteArray) (a9 : (List dRange)) : execFn G22 impl_reader_each_reader_txn_2_loops Try.f192 [.bp 0 0, .fn 195 [.bp 1 0, .bp 2 0]] [.box [.str a0, .int .i64 a1, .bool a2], .box [.bp 0 0], .box [.int .i64 a3, .int .i64 a4, .int .i64 a5, .int .i64 a6, .own 3, .nilS, .bool a7, .str a8], .arr tRange a9] = impl_reader_each_reader_txn_2_d a0 a1 a2 a3 a4 a5 a6 a7 a8 a9 (fun (y : (ByteArray × Int × Bool × Int × Int × Int × Int × Bool × ByteArray × (List dRange) × (List dWrite))) => some ⟨.ret, [.tup []], [.box [.str y.1, .int .i64 y.2.1, .bool y.2.2.1], .box [.bp 0 0], .box [.int .i64 y.2.2.2.1, .int .i64 y.2.2.2.2.1, .int .i64 y.2.2.2.2.2.1, .int .i64 y.2.2.2.2.2.2.1, .own 3, .own 4, .bool y.2.2.2.2.2.2.2.1, .str y.2.2.2.2.2.2.2.2.1], .arr tRange y.2.2.2.2.2.2.2.2.2.1, .arr tWrite y.2.2.2.2.2.2.2.2.2.2]⟩) := by kernel_rfl

theorem impl_reader_each_reader_txn_2_y (a0 : ByteArray) (a1 : Int) (a2 : Bool) (a3 : Int) (a4 : Int) (a5 : Int) (a6 : Int) (a7 : Bool) (a8 : ByteArray) (a9 : (List dRange)) : execFn G22 impl_reader_each_reader_txn_2_loops Try.f192 [.bp 0 0, .fn 195 [.bp 1 0, .bp 2 0]] [.box [.str a0, .int .i64 a1, .bool a2], .box [.bp 0 0], .box [.int .i64 a3, .int .i64 a4, .int .i64 a5, .int .i64 a6, .own 3, .nilS, .bool a7, .str a8], .arr tRange a9] = impl_reader_each_reader_txn_2_k a0 a1 a2 a3 a4 a5 a6 a7 a8 a9 (fun (y : (ByteArray × Int × Bool × Int × Int × Int × Int × Bool × ByteArray × (List dRange) × (List dWrite))) => some ⟨.ret, [.tup []], [.box [.str y.1, .int .i64 y.2.1, .bool y.2.2.1], .box [.bp 0 0], .box [.int .i64 y.2.2.2.1, .int .i64 y.2.2.2.2.1, .int .i64 y.2.2.2.2.2.1, .int .i64 y.2.2.2.2.2.2.1, .own 3, .own 4, .bool y.2.2.2.2.2.2.2.1, .str y.2.2.2.2.2.2.2.2.1], .arr tRange y.2.2.2.2.2.2.2.2.2.1, .arr tWrite y.2.2.2.2.2.2.2.2.2.2]⟩) := (impl_reader_each_reader_txn_2_x a0 a1 a2 a3 a4 a5 a6 a7 a8 a9).trans (by rw [impl_reader_each_reader_txn_2_e])

theorem impl_reader_each_reader_txn_2_l : LoopsOk G22 ⟨4, 22, impl_reader_each_reader_txn_2_loops⟩ (Try.f192.body.getD .skip) :=
  loopsOk_of (ids := [6000001, 0]) (by kernel_rfl) (by kernel_rfl) ⟨impl_reader_each_reader_txn_2_lo6000001, ⟨impl_reader_each_reader_txn_2_lo0, trivial⟩⟩

theorem impl_reader_each_c : Contract Try.prog 192 impl_reader_each_g := by
  refine told G22_ok follows Try.func192 (c := Try.f192.body.getD .skip) (by kernel_rfl) ?_
  intro args s k r hk
  unfold impl_reader_each_g at hk
  rcases onPats_inv hk with ⟨p, q, rfl, rfl⟩ | hk
  · exact ⟨impl_reader_each_reader_txn_1_loops, impl_reader_each_reader_txn_1_q q.1.1 q.1.2.1 q.1.2.2.1 q.2.1.1 q.2.1.2.1 q.2.1.2.2.1 q.2.1.2.2.2.1 q.2.1.2.2.2.2.2.2.1 q.2.1.2.2.2.2.2.2.2.1, impl_reader_each_reader_txn_1_y q.1.1 q.1.2.1 q.1.2.2.1 q.2.1.1 q.2.1.2.1 q.2.1.2.2.1 q.2.1.2.2.2.1 q.2.1.2.2.2.2.2.2.1 q.2.1.2.2.2.2.2.2.2.1, impl_reader_each_reader_txn_1_l⟩
  rcases onPats_inv hk with ⟨p, q, rfl, rfl⟩ | hk
  · exact ⟨impl_reader_each_reader_txn_2_loops, impl_reader_each_reader_txn_2_q q.1.1 q.1.2.1 q.1.2.2.1 q.2.2.1.1 q.2.2.1.2.1 q.2.2.1.2.2.1 q.2.2.1.2.2.2.1 q.2.2.1.2.2.2.2.2.2.1 q.2.2.1.2.2.2.2.2.2.2.1 q.2.2.2.1, impl_reader_each_reader_txn_2_y q.1.1 q.1.2.1 q.1.2.2.1 q.2.2.1.1 q.2.2.1.2.1 q.2.2.1.2.2.1 q.2.2.1.2.2.2.1 q.2.2.1.2.2.2.2.2.2.1 q.2.2.1.2.2.2.2.2.2.2.1 q.2.2.2.1, impl_reader_each_reader_txn_2_l⟩
  cases hk

def G23 : Glob := G22.add 192 impl_reader_each_g

theorem G23_ok : GlobOk Try.prog G23 := G22_ok.add ⟨Try.f192, Try.func192, by kernel_rfl, by kernel_rfl⟩ impl_reader_each_c

/-! ### loop.example/g00327/impl.KeyOk -/

def impl_KeyOk_loops : Nat → Option LoopSpec
  | 0 => some ⟨[0, 2, 3], [], fun vals st k => onPats [.str, .bool, .int .i64] [] vals st (fun p q => loopK impl_KeyOk_b0 Fuel (p.1, p.2.1, p.2.2.1) (Sum.elim (fun z => k .ret [.str z.1, .bool z.2.1, .int .i64 z.2.2] []) (fun z => k (.exit 0) [.str z.1, .bool z.2.1, .int .i64 z.2.2] [])))
      (none)⟩
  | _ => none

def impl_KeyOk_v0 : (ByteArray × Bool × Int) → List AV := (fun x => [.str x.1, .bool x.2.1, .int .i64 x.2.2])
def impl_KeyOk_s0 : (ByteArray × Bool × Int) → St := (fun x => [])
def impl_KeyOk_e0 : ((ByteArray × Bool × Int) ⊕ (ByteArray × Bool × Int)) → Out × List AV × St := (Sum.elim (fun z => (.ret, [.str z.1, .bool z.2.1, .int .i64 z.2.2], [])) (fun z => ((.exit 0), [.str z.1, .bool z.2.1, .int .i64 z.2.2], [])))

theorem impl_KeyOk_bx0 (x : (ByteArray × Bool × Int)) : exec G23 ⟨0, 23, impl_KeyOk_loops⟩ (loopBody Try.f170 0) (bodyK ⟨0, 23, impl_KeyOk_loops⟩ [0, 2, 3] []) (setEs (deads 23) [0, 2, 3] (impl_KeyOk_v0 x)) (impl_KeyOk_s0 x) = impl_KeyOk_b0 x (Sum.elim (fun y => some ⟨.norm, impl_KeyOk_v0 y, impl_KeyOk_s0 y⟩) fun z => some ⟨(impl_KeyOk_e0 z).1, (impl_KeyOk_e0 z).2.1, (impl_KeyOk_e0 z).2.2⟩) := by
  kernel_rfl

theorem impl_KeyOk_lo0 : ∀ sp, (impl_KeyOk_loops 0) = some sp → LoopOk G23 ⟨0, 23, impl_KeyOk_loops⟩ sp (loopBody Try.f170 0) := by
  intro sp hsp vals st k r h
  cases hsp
  dsimp only at h
  rcases onPats_inv2 h with ⟨p, q, rfl, rfl, h⟩ | h
  · exact loop_runs2 impl_KeyOk_bp0 impl_KeyOk_v0 impl_KeyOk_s0 impl_KeyOk_e0 (fun z => by rcases z with z | z <;> (intro h; cases h)) impl_KeyOk_bx0 Fuel (p.1, p.2.1, p.2.2.1) _ k r (fun z => by rcases z with z | z <;> rfl) h
  cases h

theorem impl_KeyOk_x (a0 : ByteArray) : execFn G23 impl_KeyOk_loops Try.f170 [.str a0] [] = impl_KeyOk_d a0 (fun (y : Bool) => some ⟨.ret, [.bool y], []⟩) := by kernel_rfl

theorem impl_KeyOk_y (a0 : ByteArray) : execFn G23 impl_KeyOk_loops Try.f170 [.str a0] [] = impl_KeyOk_k a0 (fun (y : Bool) => some ⟨.ret, [.bool y], []⟩) := (impl_KeyOk_x a0).trans (by rw [impl_KeyOk_e])

theorem impl_KeyOk_l : LoopsOk G23 ⟨0, 23, impl_KeyOk_loops⟩ (Try.f170.body.getD .skip) :=
  loopsOk_of (ids := [0]) (by kernel_rfl) (by kernel_rfl) ⟨impl_KeyOk_lo0, trivial⟩

theorem impl_KeyOk_c : Contract Try.prog 170 impl_KeyOk_g := by
  refine told G23_ok follows Try.func170 (c := Try.f170.body.getD .skip) (by kernel_rfl) ?_
  intro args s k r hk
  unfold impl_KeyOk_g at hk
  rcases onPats_inv hk with ⟨p, q, rfl, rfl⟩ | hk
  · exact ⟨impl_KeyOk_loops, impl_KeyOk_q p.1, impl_KeyOk_y p.1, impl_KeyOk_l⟩
  cases hk

def G24 : Glob := G23.add 170 impl_KeyOk_g

theorem G24_ok : GlobOk Try.prog G24 := G23_ok.add ⟨Try.f170, Try.func170, by kernel_rfl, by kernel_rfl⟩ impl_KeyOk_c

/-! ### loop.example/g00327/impl.RangeOk -/

def impl_RangeOk_loops : Nat → Option LoopSpec
  | _ => none

theorem impl_RangeOk_x (a0 : ByteArray) (a1 : ByteArray) : execFn G24 impl_RangeOk_loops Try.f130 [.agg [.str a0, .str a1]] [] = impl_RangeOk_d (a0, a1) (fun (y : Bool) => some ⟨.ret, [.bool y], []⟩) := by kernel_rfl

theorem impl_RangeOk_y (a0 : ByteArray) (a1 : ByteArray) : execFn G24 impl_RangeOk_loops Try.f130 [.agg [.str a0, .str a1]] [] = impl_RangeOk_k (a0, a1) (fun (y : Bool) => some ⟨.ret, [.bool y], []⟩) := (impl_RangeOk_x a0 a1).trans (by rw [impl_RangeOk_e])

theorem impl_RangeOk_l : LoopsOk G24 ⟨0, 18, impl_RangeOk_loops⟩ (Try.f130.body.getD .skip) :=
  loopsOk_of (ids := []) (by kernel_rfl) (by kernel_rfl) trivial

theorem impl_RangeOk_c : Contract Try.prog 130 impl_RangeOk_g := by
  refine told G24_ok follows Try.func130 (c := Try.f130.body.getD .skip) (by kernel_rfl) ?_
  intro args s k r hk
  unfold impl_RangeOk_g at hk
  rcases onPats_inv hk with ⟨p, q, rfl, rfl⟩ | hk
  · exact ⟨impl_RangeOk_loops, impl_RangeOk_q p.1.1 p.1.2.1, impl_RangeOk_y p.1.1 p.1.2.1, impl_RangeOk_l⟩
  cases hk

def G25 : Glob := G24.add 130 impl_RangeOk_g

theorem G25_ok : GlobOk Try.prog G25 := G24_ok.add ⟨Try.f130, Try.func130, by kernel_rfl, by kernel_rfl⟩ impl_RangeOk_c

/-! ### loop.example/g00327/impl.WriteOk -/

def impl_WriteOk_loops : Nat → Option LoopSpec
  | _ => none

theorem impl_WriteOk_x (a0 : ByteArray) (a1 : ByteArray) (a2 : Bool) : execFn G25 impl_WriteOk_loops Try.f142 [.agg [.str a0, .str a1, .bool a2]] [] = impl_WriteOk_d (a0, (a1, a2)) (fun (y : Bool) => some ⟨.ret, [.bool y], []⟩) := by kernel_rfl

theorem impl_WriteOk_y (a0 : ByteArray) (a1 : ByteArray) (a2 : Bool) : execFn G25 impl_WriteOk_loops Try.f142 [.agg [.str a0, .str a1, .bool a2]] [] = impl_WriteOk_k (a0, (a1, a2)) (fun (y : Bool) => some ⟨.ret, [.bool y], []⟩) := (impl_WriteOk_x a0 a1 a2).trans (by rw [impl_WriteOk_e])

theorem impl_WriteOk_l : LoopsOk G25 ⟨0, 22, impl_WriteOk_loops⟩ (Try.f142.body.getD .skip) :=
  loopsOk_of (ids := []) (by kernel_rfl) (by kernel_rfl) trivial

theorem impl_WriteOk_c : Contract Try.prog 142 impl_WriteOk_g := by
  refine told G25_ok follows Try.func142 (c := Try.f142.body.getD .skip) (by kernel_rfl) ?_
  intro args s k r hk
  unfold impl_WriteOk_g at hk
  rcases onPats_inv hk with ⟨p, q, rfl, rfl⟩ | hk
  · exact ⟨impl_WriteOk_loops, impl_WriteOk_q p.1.1 p.1.2.1 p.1.2.2.1, impl_WriteOk_y p.1.1 p.1.2.1 p.1.2.2.1, impl_WriteOk_l⟩
  cases hk

def G26 : Glob := G25.add 142 impl_WriteOk_g

theorem G26_ok : GlobOk Try.prog G26 := G25_ok.add ⟨Try.f142, Try.func142, by kernel_rfl, by kernel_rfl⟩ impl_WriteOk_c

/-! ### loop.example/g00327/impl.WritesOk -/

def impl_WritesOk_loops : Nat → Option LoopSpec
  | 0 => some ⟨[0, 2, 5, 6, 7], [], fun vals st k => onPats [.lst tWrite, .bool, .lst tWrite, .int .i64, .int .i64] [] vals st (fun p q => loopK impl_WritesOk_b0 Fuel (p.1, p.2.1, p.2.2.1, p.2.2.2.1, p.2.2.2.2.1) (Sum.elim (fun z => k .ret [.lst tWrite z.1, .bool z.2.1, .lst tWrite z.2.2.1, .int .i64 z.2.2.2.1, .int .i64 z.2.2.2.2] []) (fun z => k (.exit 0) [.lst tWrite z.1, .bool z.2.1, .lst tWrite z.2.2.1, .int .i64 z.2.2.2.1, .int .i64 z.2.2.2.2] [])))
      (none)⟩
  | 2000004 => some ⟨[0, 3, 4, 6, 8, 10, 12, 14, 16, 18, 20, 22, 24, 26, 28, 30, 32, 34], [], fun _ _ _ => none⟩
  | _ => none

def impl_WritesOk_v0 : ((List dWrite) × Bool × (List dWrite) × Int × Int) → List AV := (fun x => [.lst tWrite x.1, .bool x.2.1, .lst tWrite x.2.2.1, .int .i64 x.2.2.2.1, .int .i64 x.2.2.2.2])
def impl_WritesOk_s0 : ((List dWrite) × Bool × (List dWrite) × Int × Int) → St := (fun x => [])
def impl_WritesOk_e0 : (((List dWrite) × Bool × (List dWrite) × Int × Int) ⊕ ((List dWrite) × Bool × (List dWrite) × Int × Int)) → Out × List AV × St := (Sum.elim (fun z => (.ret, [.lst tWrite z.1, .bool z.2.1, .lst tWrite z.2.2.1, .int .i64 z.2.2.2.1, .int .i64 z.2.2.2.2], [])) (fun z => ((.exit 0), [.lst tWrite z.1, .bool z.2.1, .lst tWrite z.2.2.1, .int .i64 z.2.2.2.1, .int .i64 z.2.2.2.2], [])))

theorem impl_WritesOk_bx0 (x : ((List dWrite) × Bool × (List dWrite) × Int × Int)) : exec G26 ⟨0, 34, impl_WritesOk_loops⟩ (loopBody Try.f169 0) (bodyK ⟨0, 34, impl_WritesOk_loops⟩ [0, 2, 5, 6, 7] []) (setEs (deads 34) [0, 2, 5, 6, 7] (impl_WritesOk_v0 x)) (impl_WritesOk_s0 x) = impl_WritesOk_b0 x (Sum.elim (fun y => some ⟨.norm, impl_WritesOk_v0 y, impl_WritesOk_s0 y⟩) fun z => some ⟨(impl_WritesOk_e0 z).1, (impl_WritesOk_e0 z).2.1, (impl_WritesOk_e0 z).2.2⟩) := by
  kernel_rfl

theorem impl_WritesOk_lo0 : ∀ sp, (impl_WritesOk_loops 0) = some sp → LoopOk G26 ⟨0, 34, impl_WritesOk_loops⟩ sp (loopBody Try.f169 0) := by
  intro sp hsp vals st k r h
  cases hsp
  dsimp only at h
  rcases onPats_inv2 h with ⟨p, q, rfl, rfl, h⟩ | h
  · exact loop_runs2 impl_WritesOk_bp0 impl_WritesOk_v0 impl_WritesOk_s0 impl_WritesOk_e0 (fun z => by rcases z with z | z <;> (intro h; cases h)) impl_WritesOk_bx0 Fuel (p.1, p.2.1, p.2.2.1, p.2.2.2.1, p.2.2.2.2.1) _ k r (fun z => by rcases z with z | z <;> rfl) h
  cases h

theorem impl_WritesOk_x (a0 : (List dWrite)) : execFn G26 impl_WritesOk_loops Try.f169 [.lst tWrite a0] [] = impl_WritesOk_d a0 (fun (y : Bool) => some ⟨.ret, [.bool y], []⟩) := by kernel_rfl

theorem impl_WritesOk_y (a0 : (List dWrite)) : execFn G26 impl_WritesOk_loops Try.f169 [.lst tWrite a0] [] = impl_WritesOk_k a0 (fun (y : Bool) => some ⟨.ret, [.bool y], []⟩) := (impl_WritesOk_x a0).trans (by rw [impl_WritesOk_e])

theorem impl_WritesOk_l : LoopsOk G26 ⟨0, 34, impl_WritesOk_loops⟩ (Try.f169.body.getD .skip) :=
  loopsOk_of (ids := [0]) (by kernel_rfl) (by kernel_rfl) ⟨impl_WritesOk_lo0, trivial⟩

theorem impl_WritesOk_c : Contract Try.prog 169 impl_WritesOk_g := by
  refine told G26_ok follows Try.func169 (c := Try.f169.body.getD .skip) (by kernel_rfl) ?_
  intro args s k r hk
  unfold impl_WritesOk_g at hk
  rcases onPats_inv hk with ⟨p, q, rfl, rfl⟩ | hk
  · exact ⟨impl_WritesOk_loops, impl_WritesOk_q p.1, impl_WritesOk_y p.1, impl_WritesOk_l⟩
  cases hk

def G27 : Glob := G26.add 169 impl_WritesOk_g

theorem G27_ok : GlobOk Try.prog G27 := G26_ok.add ⟨Try.f169, Try.func169, by kernel_rfl, by kernel_rfl⟩ impl_WritesOk_c

/-! ### loop.example/g00327/impl.TxnOk -/

def impl_TxnOk_loops : Nat → Option LoopSpec
  | 5000011 => some ⟨[1, 2], [], fun vals st k => onPats [.bp 0 0, .bool] [.box [.int .i64, .int .i64, .int .i64, .int .i64, .lst tRange, .lst tWrite, .bool, .str]] vals st (fun p q => impl_TxnOk_j5000011 (p.2.1, q.1.1, q.1.2.1, q.1.2.2.1, q.1.2.2.2.1, q.1.2.2.2.2.1, q.1.2.2.2.2.2.1, q.1.2.2.2.2.2.2.1, q.1.2.2.2.2.2.2.2.1) (fun z => k .ret [.bp 0 0, .bool z.1] [.box [.int .i64 z.2.1, .int .i64 z.2.2.1, .int .i64 z.2.2.2.1, .int .i64 z.2.2.2.2.1, .lst tRange z.2.2.2.2.2.1, .lst tWrite z.2.2.2.2.2.2.1, .bool z.2.2.2.2.2.2.2.1, .str z.2.2.2.2.2.2.2.2]]))
      (none)⟩
  | 5000009 => some ⟨[1, 2], [], fun vals st k => onPats [.bp 0 0, .bool] [.box [.int .i64, .int .i64, .int .i64, .int .i64, .lst tRange, .lst tWrite, .bool, .str]] vals st (fun p q => impl_TxnOk_j5000009 (p.2.1, q.1.1, q.1.2.1, q.1.2.2.1, q.1.2.2.2.1, q.1.2.2.2.2.1, q.1.2.2.2.2.2.1, q.1.2.2.2.2.2.2.1, q.1.2.2.2.2.2.2.2.1) (fun z => k .ret [.bp 0 0, .bool z.1] [.box [.int .i64 z.2.1, .int .i64 z.2.2.1, .int .i64 z.2.2.2.1, .int .i64 z.2.2.2.2.1, .lst tRange z.2.2.2.2.2.1, .lst tWrite z.2.2.2.2.2.2.1, .bool z.2.2.2.2.2.2.2.1, .str z.2.2.2.2.2.2.2.2]]))
      (none)⟩
  | 0 => some ⟨[1, 2, 6, 7, 8], [], fun vals st k => onPats [.bp 0 0, .bool, .lst tRange, .int .i64, .int .i64] [.box [.int .i64, .int .i64, .int .i64, .int .i64, .lst tRange, .lst tWrite, .bool, .str]] vals st (fun p q => loopK impl_TxnOk_b0 Fuel (p.2.1, p.2.2.1, p.2.2.2.1, p.2.2.2.2.1, q.1.1, q.1.2.1, q.1.2.2.1, q.1.2.2.2.1, q.1.2.2.2.2.1, q.1.2.2.2.2.2.1, q.1.2.2.2.2.2.2.1, q.1.2.2.2.2.2.2.2.1) (Sum.elim (fun z => k .ret [.bp 0 0, .bool z.1, .lst tRange z.2.1, .int .i64 z.2.2.1, .int .i64 z.2.2.2.1] [.box [.int .i64 z.2.2.2.2.1, .int .i64 z.2.2.2.2.2.1, .int .i64 z.2.2.2.2.2.2.1, .int .i64 z.2.2.2.2.2.2.2.1, .lst tRange z.2.2.2.2.2.2.2.2.1, .lst tWrite z.2.2.2.2.2.2.2.2.2.1, .bool z.2.2.2.2.2.2.2.2.2.2.1, .str z.2.2.2.2.2.2.2.2.2.2.2]]) (fun z => k (.exit 0) [.bp 0 0, .bool z.1, .lst tRange z.2.1, .int .i64 z.2.2.1, .int .i64 z.2.2.2.1] [.box [.int .i64 z.2.2.2.2.1, .int .i64 z.2.2.2.2.2.1, .int .i64 z.2.2.2.2.2.2.1, .int .i64 z.2.2.2.2.2.2.2.1, .lst tRange z.2.2.2.2.2.2.2.2.1, .lst tWrite z.2.2.2.2.2.2.2.2.2.1, .bool z.2.2.2.2.2.2.2.2.2.2.1, .str z.2.2.2.2.2.2.2.2.2.2.2]])))
      (none)⟩
  | _ => none

def impl_TxnOk_jv5000011 : (Bool × Int × Int × Int × Int × (List dRange) × (List dWrite) × Bool × ByteArray) → List AV := (fun x => [.bp 0 0, .bool x.1])
def impl_TxnOk_js5000011 : (Bool × Int × Int × Int × Int × (List dRange) × (List dWrite) × Bool × ByteArray) → St := (fun x => [.box [.int .i64 x.2.1, .int .i64 x.2.2.1, .int .i64 x.2.2.2.1, .int .i64 x.2.2.2.2.1, .lst tRange x.2.2.2.2.2.1, .lst tWrite x.2.2.2.2.2.2.1, .bool x.2.2.2.2.2.2.2.1, .str x.2.2.2.2.2.2.2.2]])
def impl_TxnOk_je5000011 : (Bool × Int × Int × Int × Int × (List dRange) × (List dWrite) × Bool × ByteArray) → Out × List AV × St := (fun z => (.ret, [.bp 0 0, .bool z.1], [.box [.int .i64 z.2.1, .int .i64 z.2.2.1, .int .i64 z.2.2.2.1, .int .i64 z.2.2.2.2.1, .lst tRange z.2.2.2.2.2.1, .lst tWrite z.2.2.2.2.2.2.1, .bool z.2.2.2.2.2.2.2.1, .str z.2.2.2.2.2.2.2.2]]))

theorem impl_TxnOk_jx5000011 (x : (Bool × Int × Int × Int × Int × (List dRange) × (List dWrite) × Bool × ByteArray)) : exec G27 ⟨0, 93, impl_TxnOk_loops⟩ (loopBody Try.f90 5000011) (bodyK ⟨0, 93, impl_TxnOk_loops⟩ [1, 2] []) (setEs (deads 93) [1, 2] (impl_TxnOk_jv5000011 x)) (impl_TxnOk_js5000011 x) = impl_TxnOk_j5000011 x (fun z => some ⟨(impl_TxnOk_je5000011 z).1, (impl_TxnOk_je5000011 z).2.1, (impl_TxnOk_je5000011 z).2.2⟩) := by
  kernel_rfl

theorem impl_TxnOk_lo5000011 : ∀ sp, (impl_TxnOk_loops 5000011) = some sp → CutOk G27 ⟨0, 93, impl_TxnOk_loops⟩ sp (loopBody Try.f90 5000011) := by
  intro sp hsp vals st k r h
  cases hsp
  dsimp only at h
  rcases onPats_inv2 h with ⟨p, q, rfl, rfl, h⟩ | h
  · exact cut_runs impl_TxnOk_jp5000011 impl_TxnOk_jv5000011 impl_TxnOk_js5000011 impl_TxnOk_je5000011 impl_TxnOk_jx5000011 (p.2.1, q.1.1, q.1.2.1, q.1.2.2.1, q.1.2.2.2.1, q.1.2.2.2.2.1, q.1.2.2.2.2.2.1, q.1.2.2.2.2.2.2.1, q.1.2.2.2.2.2.2.2.1) _ k r (fun z => rfl) h
  cases h

def impl_TxnOk_jv5000009 : (Bool × Int × Int × Int × Int × (List dRange) × (List dWrite) × Bool × ByteArray) → List AV := (fun x => [.bp 0 0, .bool x.1])
def impl_TxnOk_js5000009 : (Bool × Int × Int × Int × Int × (List dRange) × (List dWrite) × Bool × ByteArray) → St := (fun x => [.box [.int .i64 x.2.1, .int .i64 x.2.2.1, .int .i64 x.2.2.2.1, .int .i64 x.2.2.2.2.1, .lst tRange x.2.2.2.2.2.1, .lst tWrite x.2.2.2.2.2.2.1, .bool x.2.2.2.2.2.2.2.1, .str x.2.2.2.2.2.2.2.2]])
def impl_TxnOk_je5000009 : (Bool × Int × Int × Int × Int × (List dRange) × (List dWrite) × Bool × ByteArray) → Out × List AV × St := (fun z => (.ret, [.bp 0 0, .bool z.1], [.box [.int .i64 z.2.1, .int .i64 z.2.2.1, .int .i64 z.2.2.2.1, .int .i64 z.2.2.2.2.1, .lst tRange z.2.2.2.2.2.1, .lst tWrite z.2.2.2.2.2.2.1, .bool z.2.2.2.2.2.2.2.1, .str z.2.2.2.2.2.2.2.2]]))

theorem impl_TxnOk_jx5000009 (x : (Bool × Int × Int × Int × Int × (List dRange) × (List dWrite) × Bool × ByteArray)) : exec G27 ⟨0, 93, impl_TxnOk_loops⟩ (loopBody Try.f90 5000009) (bodyK ⟨0, 93, impl_TxnOk_loops⟩ [1, 2] []) (setEs (deads 93) [1, 2] (impl_TxnOk_jv5000009 x)) (impl_TxnOk_js5000009 x) = impl_TxnOk_j5000009 x (fun z => some ⟨(impl_TxnOk_je5000009 z).1, (impl_TxnOk_je5000009 z).2.1, (impl_TxnOk_je5000009 z).2.2⟩) := by
  kernel_rfl

theorem impl_TxnOk_lo5000009 : ∀ sp, (impl_TxnOk_loops 5000009) = some sp → CutOk G27 ⟨0, 93, impl_TxnOk_loops⟩ sp (loopBody Try.f90 5000009) := by
  intro sp hsp vals st k r h
  cases hsp
  dsimp only at h
  rcases onPats_inv2 h with ⟨p, q, rfl, rfl, h⟩ | h
  · exact cut_runs impl_TxnOk_jp5000009 impl_TxnOk_jv5000009 impl_TxnOk_js5000009 impl_TxnOk_je5000009 impl_TxnOk_jx5000009 (p.2.1, q.1.1, q.1.2.1, q.1.2.2.1, q.1.2.2.2.1, q.1.2.2.2.2.1, q.1.2.2.2.2.2.1, q.1.2.2.2.2.2.2.1, q.1.2.2.2.2.2.2.2.1) _ k r (fun z => rfl) h
  cases h

def impl_TxnOk_v0 : (Bool × (List dRange) × Int × Int × Int × Int × Int × Int × (List dRange) × (List dWrite) × Bool × ByteArray) → List AV := (fun x => [.bp 0 0, .bool x.1, .lst tRange x.2.1, .int .i64 x.2.2.1, .int .i64 x.2.2.2.1])
def impl_TxnOk_s0 : (Bool × (List dRange) × Int × Int × Int × Int × Int × Int × (List dRange) × (List dWrite) × Bool × ByteArray) → St := (fun x => [.box [.int .i64 x.2.2.2.2.1, .int .i64 x.2.2.2.2.2.1, .int .i64 x.2.2.2.2.2.2.1, .int .i64 x.2.2.2.2.2.2.2.1, .lst tRange x.2.2.2.2.2.2.2.2.1, .lst tWrite x.2.2.2.2.2.2.2.2.2.1, .bool x.2.2.2.2.2.2.2.2.2.2.1, .str x.2.2.2.2.2.2.2.2.2.2.2]])
def impl_TxnOk_e0 : ((Bool × (List dRange) × Int × Int × Int × Int × Int × Int × (List dRange) × (List dWrite) × Bool × ByteArray) ⊕ (Bool × (List dRange) × Int × Int × Int × Int × Int × Int × (List dRange) × (List dWrite) × Bool × ByteArray)) → Out × List AV × St := (Sum.elim (fun z => (.ret, [.bp 0 0, .bool z.1, .lst tRange z.2.1, .int .i64 z.2.2.1, .int .i64 z.2.2.2.1], [.box [.int .i64 z.2.2.2.2.1, .int .i64 z.2.2.2.2.2.1, .int .i64 z.2.2.2.2.2.2.1, .int .i64 z.2.2.2.2.2.2.2.1, .lst tRange z.2.2.2.2.2.2.2.2.1, .lst tWrite z.2.2.2.2.2.2.2.2.2.1, .bool z.2.2.2.2.2.2.2.2.2.2.1, .str z.2.2.2.2.2.2.2.2.2.2.2]])) (fun z => ((.exit 0), [.bp 0 0, .bool z.1, .lst tRange z.2.1, .int .i64 z.2.2.1, .int .i64 z.2.2.2.1], [.box [.int .i64 z.2.2.2.2.1, .int .i64 z.2.2.2.2.2.1, .int .i64 z.2.2.2.2.2.2.1, .int .i64 z.2.2.2.2.2.2.2.1, .lst tRange z.2.2.2.2.2.2.2.2.1, .lst tWrite z.2.2.2.2.2.2.2.2.2.1, .bool z.2.2.2.2.2.2.2.2.2.2.1, .str z.2.2.2.2.2.2.2.2.2.2.2]])))

theorem impl_TxnOk_bx0 (x : (Bool × (List dRange) × Int × Int × Int × Int × Int × Int × (List dRange) × (List dWrite) × Bool × ByteArray)) : exec G27 ⟨0, 93, impl_TxnOk_loops⟩ (loopBody Try.f90 0) (bodyK ⟨0, 93, impl_TxnOk_loops⟩ [1, 2, 6, 7, 8] []) (setEs (deads 93) [1, 2, 6, 7, 8] (impl_TxnOk_v0 x)) (impl_TxnOk_s0 x) = impl_TxnOk_b0 x (Sum.elim (fun y => some ⟨.norm, impl_TxnOk_v0 y, impl_TxnOk_s0 y⟩) fun z => some ⟨(impl_TxnOk_e0 z).1, (impl_TxnOk_e0 z).2.1, (impl_TxnOk_e0 z).2.2⟩) := by
  kernel_rfl

theorem impl_TxnOk_lo0 : ∀ sp, (impl_TxnOk_loops 0) = some sp → LoopOk G27 ⟨0, 93, impl_TxnOk_loops⟩ sp (loopBody Try.f90 0) := by
  intro sp hsp vals st k r h
  cases hsp
  dsimp only at h
  rcases onPats_inv2 h with ⟨p, q, rfl, rfl, h⟩ | h
  · exact loop_runs2 impl_TxnOk_bp0 impl_TxnOk_v0 impl_TxnOk_s0 impl_TxnOk_e0 (fun z => by rcases z with z | z <;> (intro h; cases h)) impl_TxnOk_bx0 Fuel (p.2.1, p.2.2.1, p.2.2.2.1, p.2.2.2.2.1, q.1.1, q.1.2.1, q.1.2.2.1, q.1.2.2.2.1, q.1.2.2.2.2.1, q.1.2.2.2.2.2.1, q.1.2.2.2.2.2.2.1, q.1.2.2.2.2.2.2.2.1) _ k r (fun z => by rcases z with z | z <;> rfl) h
  cases h

theorem impl_TxnOk_x (a0 : Int) (a1 : Int) (a2 : Int) (a3 : Int) (a4 : (List dRange)) (a5 : (List dWrite)) (a6 : Bool) (a7 : ByteArray) : execFn G27 impl_TxnOk_loops Try.f90 [.agg [.int .i64 a0, .int .i64 a1, .int .i64 a2, .int .i64 a3, .lst tRange a4, .lst tWrite a5, .bool a6, .str a7]] [] = impl_TxnOk_d (a0, (a1, (a2, (a3, (a4, (a5, (a6, a7))))))) (fun (y : Bool) => some ⟨.ret, [.bool y], []⟩) := by kernel_rfl

theorem impl_TxnOk_y (a0 : Int) (a1 : Int) (a2 : Int) (a3 : Int) (a4 : (List dRange)) (a5 : (List dWrite)) (a6 : Bool) (a7 : ByteArray) : execFn G27 impl_TxnOk_loops Try.f90 [.agg [.int .i64 a0, .int .i64 a1, .int .i64 a2, .int .i64 a3, .lst tRange a4, .lst tWrite a5, .bool a6, .str a7]] [] = impl_TxnOk_k (a0, (a1, (a2, (a3, (a4, (a5, (a6, a7))))))) (fun (y : Bool) => some ⟨.ret, [.bool y], []⟩) := (impl_TxnOk_x a0 a1 a2 a3 a4 a5 a6 a7).trans (by rw [impl_TxnOk_e])

theorem impl_TxnOk_l : LoopsOk G27 ⟨0, 93, impl_TxnOk_loops⟩ (Try.f90.body.getD .skip) :=
  loopsOk_of (ids := [5000011, 5000009, 0]) (by kernel_rfl) (by kernel_rfl) ⟨impl_TxnOk_lo5000011, ⟨impl_TxnOk_lo5000009, ⟨impl_TxnOk_lo0, trivial⟩⟩⟩

theorem impl_TxnOk_c : Contract Try.prog 90 impl_TxnOk_g := by
  refine told G27_ok follows Try.func90 (c := Try.f90.body.getD .skip) (by kernel_rfl) ?_
  intro args s k r hk
  unfold impl_TxnOk_g at hk
  rcases onPats_inv hk with ⟨p, q, rfl, rfl⟩ | hk
  · exact ⟨impl_TxnOk_loops, impl_TxnOk_q p.1.1 p.1.2.1 p.1.2.2.1 p.1.2.2.2.1 p.1.2.2.2.2.1 p.1.2.2.2.2.2.1 p.1.2.2.2.2.2.2.1 p.1.2.2.2.2.2.2.2.1, impl_TxnOk_y p.1.1 p.1.2.1 p.1.2.2.1 p.1.2.2.2.1 p.1.2.2.2.2.1 p.1.2.2.2.2.2.1 p.1.2.2.2.2.2.2.1 p.1.2.2.2.2.2.2.2.1, impl_TxnOk_l⟩
  cases hk

def G28 : Glob := G27.add 90 impl_TxnOk_g

theorem G28_ok : GlobOk Try.prog G28 := G27_ok.add ⟨Try.f90, Try.func90, by kernel_rfl, by kernel_rfl⟩ impl_TxnOk_c

/-! ### (*loop.example/g00327/impl.reader).txn -/

def impl_reader_txn_loops : Nat → Option LoopSpec
  | 2000006 => some ⟨[0, 2, 4, 6, 8, 10, 12, 15, 16, 18, 20, 22, 24], [], fun _ _ _ => none⟩
  | 1000001 => some ⟨[0], [], fun _ _ _ => none⟩
  | _ => none

theorem impl_reader_txn_x (a0 : ByteArray) (a1 : Int) (a2 : Bool) : execFn G28 impl_reader_txn_loops Try.f138 [.bp 0 0] [.box [.str a0, .int .i64 a1, .bool a2]] = impl_reader_txn_d a0 a1 a2 (fun (y : (Int × Int × Int × Int × Bool × ByteArray × ByteArray × Int × Bool × (List dRange) × (List dWrite))) => some ⟨.ret, [.agg [.int .i64 y.1, .int .i64 y.2.1, .int .i64 y.2.2.1, .int .i64 y.2.2.2.1, .own 1, .own 2, .bool y.2.2.2.2.1, .str y.2.2.2.2.2.1]], [.box [.str y.2.2.2.2.2.2.1, .int .i64 y.2.2.2.2.2.2.2.1, .bool y.2.2.2.2.2.2.2.2.1], .arr tRange y.2.2.2.2.2.2.2.2.2.1, .arr tWrite y.2.2.2.2.2.2.2.2.2.2]⟩) := by kernel_rfl

theorem impl_reader_txn_y (a0 : ByteArray) (a1 : Int) (a2 : Bool) : execFn G28 impl_reader_txn_loops Try.f138 [.bp 0 0] [.box [.str a0, .int .i64 a1, .bool a2]] = impl_reader_txn_k a0 a1 a2 (fun (y : (Int × Int × Int × Int × Bool × ByteArray × ByteArray × Int × Bool × (List dRange) × (List dWrite))) => some ⟨.ret, [.agg [.int .i64 y.1, .int .i64 y.2.1, .int .i64 y.2.2.1, .int .i64 y.2.2.2.1, .own 1, .own 2, .bool y.2.2.2.2.1, .str y.2.2.2.2.2.1]], [.box [.str y.2.2.2.2.2.2.1, .int .i64 y.2.2.2.2.2.2.2.1, .bool y.2.2.2.2.2.2.2.2.1], .arr tRange y.2.2.2.2.2.2.2.2.2.1, .arr tWrite y.2.2.2.2.2.2.2.2.2.2]⟩) := (impl_reader_txn_x a0 a1 a2).trans (by rw [impl_reader_txn_e])

theorem impl_reader_txn_l : LoopsOk G28 ⟨1, 38, impl_reader_txn_loops⟩ (Try.f138.body.getD .skip) :=
  loopsOk_of (ids := []) (by kernel_rfl) (by kernel_rfl) trivial

theorem impl_reader_txn_c : Contract Try.prog 138 impl_reader_txn_g := by
  refine told G28_ok follows Try.func138 (c := Try.f138.body.getD .skip) (by kernel_rfl) ?_
  intro args s k r hk
  unfold impl_reader_txn_g at hk
  rcases onPats_inv hk with ⟨p, q, rfl, rfl⟩ | hk
  · exact ⟨impl_reader_txn_loops, impl_reader_txn_q q.1.1 q.1.2.1 q.1.2.2.1, impl_reader_txn_y q.1.1 q.1.2.1 q.1.2.2.1, impl_reader_txn_l⟩
  cases hk

def G29 : Glob := G28.add 138 impl_reader_txn_g

theorem G29_ok : GlobOk Try.prog G29 := G28_ok.add ⟨Try.f138, Try.func138, by kernel_rfl, by kernel_rfl⟩ impl_reader_txn_c

/-! ### loop.example/g00327/impl.ReadTxn -/

def impl_ReadTxn_loops : Nat → Option LoopSpec
  | 1000005 => some ⟨[0], [], fun _ _ _ => none⟩
  | 3000000 => some ⟨[], [none, none, none, none, some tRange, some tWrite], fun _ _ _ => none⟩
  | _ => none

theorem impl_ReadTxn_x (a0 : ByteArray) (a1 : Int) : execFn G29 impl_ReadTxn_loops Try.f61 [.str a0, .int .i64 a1] [] = impl_ReadTxn_d a0 a1 (fun (y : (Int × Int × Int × Int × Bool × ByteArray × Int × Bool × (List dRange) × (List dWrite))) => some ⟨.ret, [.tup [.agg [.int .i64 y.1, .int .i64 y.2.1, .int .i64 y.2.2.1, .int .i64 y.2.2.2.1, .own 0, .own 1, .bool y.2.2.2.2.1, .str y.2.2.2.2.2.1], .int .i64 y.2.2.2.2.2.2.1, .bool y.2.2.2.2.2.2.2.1]], [.arr tRange y.2.2.2.2.2.2.2.2.1, .arr tWrite y.2.2.2.2.2.2.2.2.2]⟩) := by kernel_rfl

theorem impl_ReadTxn_y (a0 : ByteArray) (a1 : Int) : execFn G29 impl_ReadTxn_loops Try.f61 [.str a0, .int .i64 a1] [] = impl_ReadTxn_k a0 a1 (fun (y : (Int × Int × Int × Int × Bool × ByteArray × Int × Bool × (List dRange) × (List dWrite))) => some ⟨.ret, [.tup [.agg [.int .i64 y.1, .int .i64 y.2.1, .int .i64 y.2.2.1, .int .i64 y.2.2.2.1, .own 0, .own 1, .bool y.2.2.2.2.1, .str y.2.2.2.2.2.1], .int .i64 y.2.2.2.2.2.2.1, .bool y.2.2.2.2.2.2.2.1]], [.arr tRange y.2.2.2.2.2.2.2.2.1, .arr tWrite y.2.2.2.2.2.2.2.2.2]⟩) := (impl_ReadTxn_x a0 a1).trans (by rw [impl_ReadTxn_e])

theorem impl_ReadTxn_l : LoopsOk G29 ⟨0, 25, impl_ReadTxn_loops⟩ (Try.f61.body.getD .skip) :=
  loopsOk_of (ids := []) (by kernel_rfl) (by kernel_rfl) trivial

theorem impl_ReadTxn_c : Contract Try.prog 61 impl_ReadTxn_g := by
  refine told G29_ok follows Try.func61 (c := Try.f61.body.getD .skip) (by kernel_rfl) ?_
  intro args s k r hk
  unfold impl_ReadTxn_g at hk
  rcases onPats_inv hk with ⟨p, q, rfl, rfl⟩ | hk
  · exact ⟨impl_ReadTxn_loops, impl_ReadTxn_q p.1 p.2.1, impl_ReadTxn_y p.1 p.2.1, impl_ReadTxn_l⟩
  cases hk

def G30 : Glob := G29.add 61 impl_ReadTxn_g

theorem G30_ok : GlobOk Try.prog G30 := G29_ok.add ⟨Try.f61, Try.func61, by kernel_rfl, by kernel_rfl⟩ impl_ReadTxn_c

/-! ### loop.example/g00327/laws.eqRange -/

def laws_eqRange_loops : Nat → Option LoopSpec
  | _ => none

theorem laws_eqRange_x (a0 : ByteArray) (a1 : ByteArray) (a2 : ByteArray) (a3 : ByteArray) : execFn G30 laws_eqRange_loops Try.f173 [.agg [.str a0, .str a1], .agg [.str a2, .str a3]] [] = laws_eqRange_d (a0, a1) (a2, a3) (fun (y : Bool) => some ⟨.ret, [.bool y], []⟩) := by kernel_rfl

theorem laws_eqRange_y (a0 : ByteArray) (a1 : ByteArray) (a2 : ByteArray) (a3 : ByteArray) : execFn G30 laws_eqRange_loops Try.f173 [.agg [.str a0, .str a1], .agg [.str a2, .str a3]] [] = laws_eqRange_k (a0, a1) (a2, a3) (fun (y : Bool) => some ⟨.ret, [.bool y], []⟩) := (laws_eqRange_x a0 a1 a2 a3).trans (by rw [laws_eqRange_e])

theorem laws_eqRange_l : LoopsOk G30 ⟨0, 15, laws_eqRange_loops⟩ (Try.f173.body.getD .skip) :=
  loopsOk_of (ids := []) (by kernel_rfl) (by kernel_rfl) trivial

theorem laws_eqRange_c : Contract Try.prog 173 laws_eqRange_g := by
  refine told G30_ok follows Try.func173 (c := Try.f173.body.getD .skip) (by kernel_rfl) ?_
  intro args s k r hk
  unfold laws_eqRange_g at hk
  rcases onPats_inv hk with ⟨p, q, rfl, rfl⟩ | hk
  · exact ⟨laws_eqRange_loops, laws_eqRange_q p.1.1 p.1.2.1 p.2.1.1 p.2.1.2.1, laws_eqRange_y p.1.1 p.1.2.1 p.2.1.1 p.2.1.2.1, laws_eqRange_l⟩
  cases hk

def G31 : Glob := G30.add 173 laws_eqRange_g

theorem G31_ok : GlobOk Try.prog G31 := G30_ok.add ⟨Try.f173, Try.func173, by kernel_rfl, by kernel_rfl⟩ laws_eqRange_c

/-! ### loop.example/g00327/laws.eqRangeS -/

def laws_eqRangeS_loops : Nat → Option LoopSpec
  | 0 => some ⟨[0, 1, 4, 5], [], fun vals st k => onPats [.lst tRange, .lst tRange, .bool, .int .i64] [] vals st (fun p q => loopK laws_eqRangeS_b0 Fuel (p.1, p.2.1, p.2.2.1, p.2.2.2.1) (Sum.elim (fun z => k .ret [.lst tRange z.1, .lst tRange z.2.1, .bool z.2.2.1, .int .i64 z.2.2.2] []) (fun z => k (.exit 0) [.lst tRange z.1, .lst tRange z.2.1, .bool z.2.2.1, .int .i64 z.2.2.2] [])))
      (none)⟩
  | 2000006 => some ⟨[0, 2, 4, 6, 8, 10, 12, 14, 16, 18], [], fun _ _ _ => none⟩
  | _ => none

def laws_eqRangeS_v0 : ((List dRange) × (List dRange) × Bool × Int) → List AV := (fun x => [.lst tRange x.1, .lst tRange x.2.1, .bool x.2.2.1, .int .i64 x.2.2.2])
def laws_eqRangeS_s0 : ((List dRange) × (List dRange) × Bool × Int) → St := (fun x => [])
def laws_eqRangeS_e0 : (((List dRange) × (List dRange) × Bool × Int) ⊕ ((List dRange) × (List dRange) × Bool × Int)) → Out × List AV × St := (Sum.elim (fun z => (.ret, [.lst tRange z.1, .lst tRange z.2.1, .bool z.2.2.1, .int .i64 z.2.2.2], [])) (fun z => ((.exit 0), [.lst tRange z.1, .lst tRange z.2.1, .bool z.2.2.1, .int .i64 z.2.2.2], [])))

theorem laws_eqRangeS_bx0 (x : ((List dRange) × (List dRange) × Bool × Int)) : exec G31 ⟨0, 27, laws_eqRangeS_loops⟩ (loopBody Try.f94 0) (bodyK ⟨0, 27, laws_eqRangeS_loops⟩ [0, 1, 4, 5] []) (setEs (deads 27) [0, 1, 4, 5] (laws_eqRangeS_v0 x)) (laws_eqRangeS_s0 x) = laws_eqRangeS_b0 x (Sum.elim (fun y => some ⟨.norm, laws_eqRangeS_v0 y, laws_eqRangeS_s0 y⟩) fun z => some ⟨(laws_eqRangeS_e0 z).1, (laws_eqRangeS_e0 z).2.1, (laws_eqRangeS_e0 z).2.2⟩) := by
  kernel_rfl

theorem laws_eqRangeS_lo0 : ∀ sp, (laws_eqRangeS_loops 0) = some sp → LoopOk G31 ⟨0, 27, laws_eqRangeS_loops⟩ sp (loopBody Try.f94 0) := by
  intro sp hsp vals st k r h
  cases hsp
  dsimp only at h
  rcases onPats_inv2 h with ⟨p, q, rfl, rfl, h⟩ | h
  · exact loop_runs2 laws_eqRangeS_bp0 laws_eqRangeS_v0 laws_eqRangeS_s0 laws_eqRangeS_e0 (fun z => by rcases z with z | z <;> (intro h; cases h)) laws_eqRangeS_bx0 Fuel (p.1, p.2.1, p.2.2.1, p.2.2.2.1) _ k r (fun z => by rcases z with z | z <;> rfl) h
  cases h

theorem laws_eqRangeS_x (a0 : (List dRange)) (a1 : (List dRange)) : execFn G31 laws_eqRangeS_loops Try.f94 [.lst tRange a0, .lst tRange a1] [] = laws_eqRangeS_d a0 a1 (fun (y : Bool) => some ⟨.ret, [.bool y], []⟩) := by kernel_rfl

theorem laws_eqRangeS_y (a0 : (List dRange)) (a1 : (List dRange)) : execFn G31 laws_eqRangeS_loops Try.f94 [.lst tRange a0, .lst tRange a1] [] = laws_eqRangeS_k a0 a1 (fun (y : Bool) => some ⟨.ret, [.bool y], []⟩) := (laws_eqRangeS_x a0 a1).trans (by rw [laws_eqRangeS_e])

theorem laws_eqRangeS_l : LoopsOk G31 ⟨0, 27, laws_eqRangeS_loops⟩ (Try.f94.body.getD .skip) :=
  loopsOk_of (ids := [0]) (by kernel_rfl) (by kernel_rfl) ⟨laws_eqRangeS_lo0, trivial⟩

theorem laws_eqRangeS_c : Contract Try.prog 94 laws_eqRangeS_g := by
  refine told G31_ok follows Try.func94 (c := Try.f94.body.getD .skip) (by kernel_rfl) ?_
  intro args s k r hk
  unfold laws_eqRangeS_g at hk
  rcases onPats_inv hk with ⟨p, q, rfl, rfl⟩ | hk
  · exact ⟨laws_eqRangeS_loops, laws_eqRangeS_q p.1 p.2.1, laws_eqRangeS_y p.1 p.2.1, laws_eqRangeS_l⟩
  cases hk

def G32 : Glob := G31.add 94 laws_eqRangeS_g

theorem G32_ok : GlobOk Try.prog G32 := G31_ok.add ⟨Try.f94, Try.func94, by kernel_rfl, by kernel_rfl⟩ laws_eqRangeS_c

/-! ### loop.example/g00327/laws.eqWrite -/

def laws_eqWrite_loops : Nat → Option LoopSpec
  | _ => none

theorem laws_eqWrite_x (a0 : ByteArray) (a1 : ByteArray) (a2 : Bool) (a3 : ByteArray) (a4 : ByteArray) (a5 : Bool) : execFn G32 laws_eqWrite_loops Try.f124 [.agg [.str a0, .str a1, .bool a2], .agg [.str a3, .str a4, .bool a5]] [] = laws_eqWrite_d (a0, (a1, a2)) (a3, (a4, a5)) (fun (y : Bool) => some ⟨.ret, [.bool y], []⟩) := by kernel_rfl

theorem laws_eqWrite_y (a0 : ByteArray) (a1 : ByteArray) (a2 : Bool) (a3 : ByteArray) (a4 : ByteArray) (a5 : Bool) : execFn G32 laws_eqWrite_loops Try.f124 [.agg [.str a0, .str a1, .bool a2], .agg [.str a3, .str a4, .bool a5]] [] = laws_eqWrite_k (a0, (a1, a2)) (a3, (a4, a5)) (fun (y : Bool) => some ⟨.ret, [.bool y], []⟩) := (laws_eqWrite_x a0 a1 a2 a3 a4 a5).trans (by rw [laws_eqWrite_e])

theorem laws_eqWrite_l : LoopsOk G32 ⟨0, 20, laws_eqWrite_loops⟩ (Try.f124.body.getD .skip) :=
  loopsOk_of (ids := []) (by kernel_rfl) (by kernel_rfl) trivial

theorem laws_eqWrite_c : Contract Try.prog 124 laws_eqWrite_g := by
  refine told G32_ok follows Try.func124 (c := Try.f124.body.getD .skip) (by kernel_rfl) ?_
  intro args s k r hk
  unfold laws_eqWrite_g at hk
  rcases onPats_inv hk with ⟨p, q, rfl, rfl⟩ | hk
  · exact ⟨laws_eqWrite_loops, laws_eqWrite_q p.1.1 p.1.2.1 p.1.2.2.1 p.2.1.1 p.2.1.2.1 p.2.1.2.2.1, laws_eqWrite_y p.1.1 p.1.2.1 p.1.2.2.1 p.2.1.1 p.2.1.2.1 p.2.1.2.2.1, laws_eqWrite_l⟩
  cases hk

def G33 : Glob := G32.add 124 laws_eqWrite_g

theorem G33_ok : GlobOk Try.prog G33 := G32_ok.add ⟨Try.f124, Try.func124, by kernel_rfl, by kernel_rfl⟩ laws_eqWrite_c

/-! ### loop.example/g00327/laws.eqWriteS -/

def laws_eqWriteS_loops : Nat → Option LoopSpec
  | 0 => some ⟨[0, 1, 4, 5], [], fun vals st k => onPats [.lst tWrite, .lst tWrite, .bool, .int .i64] [] vals st (fun p q => loopK laws_eqWriteS_b0 Fuel (p.1, p.2.1, p.2.2.1, p.2.2.2.1) (Sum.elim (fun z => k .ret [.lst tWrite z.1, .lst tWrite z.2.1, .bool z.2.2.1, .int .i64 z.2.2.2] []) (fun z => k (.exit 0) [.lst tWrite z.1, .lst tWrite z.2.1, .bool z.2.2.1, .int .i64 z.2.2.2] [])))
      (none)⟩
  | 2000006 => some ⟨[0, 2, 4, 6, 8, 10, 12, 14, 16, 18], [], fun _ _ _ => none⟩
  | _ => none

def laws_eqWriteS_v0 : ((List dWrite) × (List dWrite) × Bool × Int) → List AV := (fun x => [.lst tWrite x.1, .lst tWrite x.2.1, .bool x.2.2.1, .int .i64 x.2.2.2])
def laws_eqWriteS_s0 : ((List dWrite) × (List dWrite) × Bool × Int) → St := (fun x => [])
def laws_eqWriteS_e0 : (((List dWrite) × (List dWrite) × Bool × Int) ⊕ ((List dWrite) × (List dWrite) × Bool × Int)) → Out × List AV × St := (Sum.elim (fun z => (.ret, [.lst tWrite z.1, .lst tWrite z.2.1, .bool z.2.2.1, .int .i64 z.2.2.2], [])) (fun z => ((.exit 0), [.lst tWrite z.1, .lst tWrite z.2.1, .bool z.2.2.1, .int .i64 z.2.2.2], [])))

theorem laws_eqWriteS_bx0 (x : ((List dWrite) × (List dWrite) × Bool × Int)) : exec G33 ⟨0, 27, laws_eqWriteS_loops⟩ (loopBody Try.f45 0) (bodyK ⟨0, 27, laws_eqWriteS_loops⟩ [0, 1, 4, 5] []) (setEs (deads 27) [0, 1, 4, 5] (laws_eqWriteS_v0 x)) (laws_eqWriteS_s0 x) = laws_eqWriteS_b0 x (Sum.elim (fun y => some ⟨.norm, laws_eqWriteS_v0 y, laws_eqWriteS_s0 y⟩) fun z => some ⟨(laws_eqWriteS_e0 z).1, (laws_eqWriteS_e0 z).2.1, (laws_eqWriteS_e0 z).2.2⟩) := by
  kernel_rfl

theorem laws_eqWriteS_lo0 : ∀ sp, (laws_eqWriteS_loops 0) = some sp → LoopOk G33 ⟨0, 27, laws_eqWriteS_loops⟩ sp (loopBody Try.f45 0) := by
  intro sp hsp vals st k r h
  cases hsp
  dsimp only at h
  rcases onPats_inv2 h with ⟨p, q, rfl, rfl, h⟩ | h
  · exact loop_runs2 laws_eqWriteS_bp0 laws_eqWriteS_v0 laws_eqWriteS_s0 laws_eqWriteS_e0 (fun z => by rcases z with z | z <;> (intro h; cases h)) laws_eqWriteS_bx0 Fuel (p.1, p.2.1, p.2.2.1, p.2.2.2.1) _ k r (fun z => by rcases z with z | z <;> rfl) h
  cases h

theorem laws_eqWriteS_x (a0 : (List dWrite)) (a1 : (List dWrite)) : execFn G33 laws_eqWriteS_loops Try.f45 [.lst tWrite a0, .lst tWrite a1] [] = laws_eqWriteS_d a0 a1 (fun (y : Bool) => some ⟨.ret, [.bool y], []⟩) := by kernel_rfl

theorem laws_eqWriteS_y (a0 : (List dWrite)) (a1 : (List dWrite)) : execFn G33 laws_eqWriteS_loops Try.f45 [.lst tWrite a0, .lst tWrite a1] [] = laws_eqWriteS_k a0 a1 (fun (y : Bool) => some ⟨.ret, [.bool y], []⟩) := (laws_eqWriteS_x a0 a1).trans (by rw [laws_eqWriteS_e])

theorem laws_eqWriteS_l : LoopsOk G33 ⟨0, 27, laws_eqWriteS_loops⟩ (Try.f45.body.getD .skip) :=
  loopsOk_of (ids := [0]) (by kernel_rfl) (by kernel_rfl) ⟨laws_eqWriteS_lo0, trivial⟩

theorem laws_eqWriteS_c : Contract Try.prog 45 laws_eqWriteS_g := by
  refine told G33_ok follows Try.func45 (c := Try.f45.body.getD .skip) (by kernel_rfl) ?_
  intro args s k r hk
  unfold laws_eqWriteS_g at hk
  rcases onPats_inv hk with ⟨p, q, rfl, rfl⟩ | hk
  · exact ⟨laws_eqWriteS_loops, laws_eqWriteS_q p.1 p.2.1, laws_eqWriteS_y p.1 p.2.1, laws_eqWriteS_l⟩
  cases hk

def G34 : Glob := G33.add 45 laws_eqWriteS_g

theorem G34_ok : GlobOk Try.prog G34 := G33_ok.add ⟨Try.f45, Try.func45, by kernel_rfl, by kernel_rfl⟩ laws_eqWriteS_c

/-! ### loop.example/g00327/laws.eqTxn -/

def laws_eqTxn_loops : Nat → Option LoopSpec
  | _ => none

theorem laws_eqTxn_x (a0 : Int) (a1 : Int) (a2 : Int) (a3 : Int) (a4 : (List dRange)) (a5 : (List dWrite)) (a6 : Bool) (a7 : ByteArray) (a8 : Int) (a9 : Int) (a10 : Int) (a11 : Int) (a12 : (List dRange)) (a13 : (List dWrite)) (a14 : Bool) (a15 : ByteArray) : execFn G34 laws_eqTxn_loops Try.f24 [.agg [.int .i64 a0, .int .i64 a1, .int .i64 a2, .int .i64 a3, .lst tRange a4, .lst tWrite a5, .bool a6, .str a7], .agg [.int .i64 a8, .int .i64 a9, .int .i64 a10, .int .i64 a11, .lst tRange a12, .lst tWrite a13, .bool a14, .str a15]] [] = laws_eqTxn_d (a0, (a1, (a2, (a3, (a4, (a5, (a6, a7))))))) (a8, (a9, (a10, (a11, (a12, (a13, (a14, a15))))))) (fun (y : Bool) => some ⟨.ret, [.bool y], []⟩) := by kernel_rfl

theorem laws_eqTxn_y (a0 : Int) (a1 : Int) (a2 : Int) (a3 : Int) (a4 : (List dRange)) (a5 : (List dWrite)) (a6 : Bool) (a7 : ByteArray) (a8 : Int) (a9 : Int) (a10 : Int) (a11 : Int) (a12 : (List dRange)) (a13 : (List dWrite)) (a14 : Bool) (a15 : ByteArray) : execFn G34 laws_eqTxn_loops Try.f24 [.agg [.int .i64 a0, .int .i64 a1, .int .i64 a2, .int .i64 a3, .lst tRange a4, .lst tWrite a5, .bool a6, .str a7], .agg [.int .i64 a8, .int .i64 a9, .int .i64 a10, .int .i64 a11, .lst tRange a12, .lst tWrite a13, .bool a14, .str a15]] [] = laws_eqTxn_k (a0, (a1, (a2, (a3, (a4, (a5, (a6, a7))))))) (a8, (a9, (a10, (a11, (a12, (a13, (a14, a15))))))) (fun (y : Bool) => some ⟨.ret, [.bool y], []⟩) := (laws_eqTxn_x a0 a1 a2 a3 a4 a5 a6 a7 a8 a9 a10 a11 a12 a13 a14 a15).trans (by rw [laws_eqTxn_e])

theorem laws_eqTxn_l : LoopsOk G34 ⟨0, 47, laws_eqTxn_loops⟩ (Try.f24.body.getD .skip) :=
  loopsOk_of (ids := []) (by kernel_rfl) (by kernel_rfl) trivial

theorem laws_eqTxn_c : Contract Try.prog 24 laws_eqTxn_g := by
  refine told G34_ok follows Try.func24 (c := Try.f24.body.getD .skip) (by kernel_rfl) ?_
  intro args s k r hk
  unfold laws_eqTxn_g at hk
  rcases onPats_inv hk with ⟨p, q, rfl, rfl⟩ | hk
  · exact ⟨laws_eqTxn_loops, laws_eqTxn_q p.1.1 p.1.2.1 p.1.2.2.1 p.1.2.2.2.1 p.1.2.2.2.2.1 p.1.2.2.2.2.2.1 p.1.2.2.2.2.2.2.1 p.1.2.2.2.2.2.2.2.1 p.2.1.1 p.2.1.2.1 p.2.1.2.2.1 p.2.1.2.2.2.1 p.2.1.2.2.2.2.1 p.2.1.2.2.2.2.2.1 p.2.1.2.2.2.2.2.2.1 p.2.1.2.2.2.2.2.2.2.1, laws_eqTxn_y p.1.1 p.1.2.1 p.1.2.2.1 p.1.2.2.2.1 p.1.2.2.2.2.1 p.1.2.2.2.2.2.1 p.1.2.2.2.2.2.2.1 p.1.2.2.2.2.2.2.2.1 p.2.1.1 p.2.1.2.1 p.2.1.2.2.1 p.2.1.2.2.2.1 p.2.1.2.2.2.2.1 p.2.1.2.2.2.2.2.1 p.2.1.2.2.2.2.2.2.1 p.2.1.2.2.2.2.2.2.2.1, laws_eqTxn_l⟩
  cases hk

def G35 : Glob := G34.add 24 laws_eqTxn_g

theorem G35_ok : GlobOk Try.prog G35 := G34_ok.add ⟨Try.f24, Try.func24, by kernel_rfl, by kernel_rfl⟩ laws_eqTxn_c

/-! ### loop.example/g00327/laws.markText -/

def laws_markText_loops : Nat → Option LoopSpec
  | 0 => some ⟨[0, 3], [], fun vals st k => onPats [.int .i64, .str] [] vals st (fun p q => loopK laws_markText_b0 Fuel (p.1, p.2.1) (fun z => k (.exit 0) [.int .i64 z.1, .str z.2] []))
      (none)⟩
  | _ => none

def laws_markText_v0 : (Int × ByteArray) → List AV := (fun x => [.int .i64 x.1, .str x.2])
def laws_markText_s0 : (Int × ByteArray) → St := (fun x => [])
def laws_markText_e0 : (Int × ByteArray) → Out × List AV × St := (fun z => ((.exit 0), [.int .i64 z.1, .str z.2], []))

theorem laws_markText_bx0 (x : (Int × ByteArray)) : exec G35 ⟨0, 20, laws_markText_loops⟩ (loopBody Try.f125 0) (bodyK ⟨0, 20, laws_markText_loops⟩ [0, 3] []) (setEs (deads 20) [0, 3] (laws_markText_v0 x)) (laws_markText_s0 x) = laws_markText_b0 x (Sum.elim (fun y => some ⟨.norm, laws_markText_v0 y, laws_markText_s0 y⟩) fun z => some ⟨(laws_markText_e0 z).1, (laws_markText_e0 z).2.1, (laws_markText_e0 z).2.2⟩) := by
  kernel_rfl

theorem laws_markText_lo0 : ∀ sp, (laws_markText_loops 0) = some sp → LoopOk G35 ⟨0, 20, laws_markText_loops⟩ sp (loopBody Try.f125 0) := by
  intro sp hsp vals st k r h
  cases hsp
  dsimp only at h
  rcases onPats_inv2 h with ⟨p, q, rfl, rfl, h⟩ | h
  · exact loop_runs2 laws_markText_bp0 laws_markText_v0 laws_markText_s0 laws_markText_e0 (fun z => by (intro h; cases h)) laws_markText_bx0 Fuel (p.1, p.2.1) _ k r (fun z => rfl) h
  cases h

theorem laws_markText_x (a0 : Int) : execFn G35 laws_markText_loops Try.f125 [.int .i64 a0] [] = laws_markText_d a0 (fun (y : ByteArray) => some ⟨.ret, [.str y], []⟩) := by kernel_rfl

theorem laws_markText_y (a0 : Int) : execFn G35 laws_markText_loops Try.f125 [.int .i64 a0] [] = laws_markText_k a0 (fun (y : ByteArray) => some ⟨.ret, [.str y], []⟩) := (laws_markText_x a0).trans (by rw [laws_markText_e])

theorem laws_markText_l : LoopsOk G35 ⟨0, 20, laws_markText_loops⟩ (Try.f125.body.getD .skip) :=
  loopsOk_of (ids := [0]) (by kernel_rfl) (by kernel_rfl) ⟨laws_markText_lo0, trivial⟩

theorem laws_markText_c : Contract Try.prog 125 laws_markText_g := by
  refine told G35_ok follows Try.func125 (c := Try.f125.body.getD .skip) (by kernel_rfl) ?_
  intro args s k r hk
  unfold laws_markText_g at hk
  rcases onPats_inv hk with ⟨p, q, rfl, rfl⟩ | hk
  · exact ⟨laws_markText_loops, laws_markText_q p.1, laws_markText_y p.1, laws_markText_l⟩
  cases hk

def G36 : Glob := G35.add 125 laws_markText_g

theorem G36_ok : GlobOk Try.prog G36 := G35_ok.add ⟨Try.f125, Try.func125, by kernel_rfl, by kernel_rfl⟩ laws_markText_c

/-! ### loop.example/g00327/laws.markRangeS -/

def laws_markRangeS_vo_loops : Nat → Option LoopSpec
  | 0 => some ⟨[0, 1, 5], [], fun vals st k => onPats [.own 0, .int .i64, .int .i64] [.arr tRange] vals st (fun p q => loopK laws_markRangeS_vo_b0 Fuel (p.2.1, p.2.2.1, q.1) (fun z => k (.exit 0) [.own 0, .int .i64 z.1, .int .i64 z.2.1] [.arr tRange z.2.2]))
      (none)⟩
  | _ => none

def laws_markRangeS_vo_v0 : (Int × Int × (List dRange)) → List AV := (fun x => [.own 0, .int .i64 x.1, .int .i64 x.2.1])
def laws_markRangeS_vo_s0 : (Int × Int × (List dRange)) → St := (fun x => [.arr tRange x.2.2])
def laws_markRangeS_vo_e0 : (Int × Int × (List dRange)) → Out × List AV × St := (fun z => ((.exit 0), [.own 0, .int .i64 z.1, .int .i64 z.2.1], [.arr tRange z.2.2]))

theorem laws_markRangeS_vo_bx0 (x : (Int × Int × (List dRange))) : exec G36 ⟨1, 29, laws_markRangeS_vo_loops⟩ (loopBody Try.f132 0) (bodyK ⟨1, 29, laws_markRangeS_vo_loops⟩ [0, 1, 5] []) (setEs (deads 29) [0, 1, 5] (laws_markRangeS_vo_v0 x)) (laws_markRangeS_vo_s0 x) = laws_markRangeS_vo_b0 x (Sum.elim (fun y => some ⟨.norm, laws_markRangeS_vo_v0 y, laws_markRangeS_vo_s0 y⟩) fun z => some ⟨(laws_markRangeS_vo_e0 z).1, (laws_markRangeS_vo_e0 z).2.1, (laws_markRangeS_vo_e0 z).2.2⟩) := by
  kernel_rfl

theorem laws_markRangeS_vo_lo0 : ∀ sp, (laws_markRangeS_vo_loops 0) = some sp → LoopOk G36 ⟨1, 29, laws_markRangeS_vo_loops⟩ sp (loopBody Try.f132 0) := by
  intro sp hsp vals st k r h
  cases hsp
  dsimp only at h
  rcases onPats_inv2 h with ⟨p, q, rfl, rfl, h⟩ | h
  · exact loop_runs2 laws_markRangeS_vo_bp0 laws_markRangeS_vo_v0 laws_markRangeS_vo_s0 laws_markRangeS_vo_e0 (fun z => by (intro h; cases h)) laws_markRangeS_vo_bx0 Fuel (p.2.1, p.2.2.1, q.1) _ k r (fun z => rfl) h
  cases h

theorem laws_markRangeS_vo_x (a0 : Int) (a1 : (List dRange)) : execFn G36 laws_markRangeS_vo_loops Try.f132 [.own 0, .int .i64 a0] [.arr tRange a1] = laws_markRangeS_vo_d a0 a1 (fun (y : (Int × (List dRange))) => some ⟨.ret, [.int .i64 y.1], [.arr tRange y.2]⟩) := by kernel_rfl

theorem laws_markRangeS_vo_y (a0 : Int) (a1 : (List dRange)) : execFn G36 laws_markRangeS_vo_loops Try.f132 [.own 0, .int .i64 a0] [.arr tRange a1] = laws_markRangeS_vo_k a0 a1 (fun (y : (Int × (List dRange))) => some ⟨.ret, [.int .i64 y.1], [.arr tRange y.2]⟩) := (laws_markRangeS_vo_x a0 a1).trans (by rw [laws_markRangeS_vo_e])

theorem laws_markRangeS_vo_l : LoopsOk G36 ⟨1, 29, laws_markRangeS_vo_loops⟩ (Try.f132.body.getD .skip) :=
  loopsOk_of (ids := [0]) (by kernel_rfl) (by kernel_rfl) ⟨laws_markRangeS_vo_lo0, trivial⟩

theorem laws_markRangeS_c : Contract Try.prog 132 laws_markRangeS_g := by
  refine told G36_ok follows Try.func132 (c := Try.f132.body.getD .skip) (by kernel_rfl) ?_
  intro args s k r hk
  unfold laws_markRangeS_g at hk
  rcases onPats_inv hk with ⟨p, q, rfl, rfl⟩ | hk
  · exact ⟨laws_markRangeS_vo_loops, laws_markRangeS_vo_q p.2.1 q.1, laws_markRangeS_vo_y p.2.1 q.1, laws_markRangeS_vo_l⟩
  cases hk

def G37 : Glob := G36.add 132 laws_markRangeS_g

theorem G37_ok : GlobOk Try.prog G37 := G36_ok.add ⟨Try.f132, Try.func132, by kernel_rfl, by kernel_rfl⟩ laws_markRangeS_c

/-! ### loop.example/g00327/laws.markWriteS -/

def laws_markWriteS_vo_loops : Nat → Option LoopSpec
  | 0 => some ⟨[0, 1, 5], [], fun vals st k => onPats [.own 0, .int .i64, .int .i64] [.arr tWrite] vals st (fun p q => loopK laws_markWriteS_vo_b0 Fuel (p.2.1, p.2.2.1, q.1) (fun z => k (.exit 0) [.own 0, .int .i64 z.1, .int .i64 z.2.1] [.arr tWrite z.2.2]))
      (none)⟩
  | _ => none

def laws_markWriteS_vo_v0 : (Int × Int × (List dWrite)) → List AV := (fun x => [.own 0, .int .i64 x.1, .int .i64 x.2.1])
def laws_markWriteS_vo_s0 : (Int × Int × (List dWrite)) → St := (fun x => [.arr tWrite x.2.2])
def laws_markWriteS_vo_e0 : (Int × Int × (List dWrite)) → Out × List AV × St := (fun z => ((.exit 0), [.own 0, .int .i64 z.1, .int .i64 z.2.1], [.arr tWrite z.2.2]))

theorem laws_markWriteS_vo_bx0 (x : (Int × Int × (List dWrite))) : exec G37 ⟨1, 38, laws_markWriteS_vo_loops⟩ (loopBody Try.f47 0) (bodyK ⟨1, 38, laws_markWriteS_vo_loops⟩ [0, 1, 5] []) (setEs (deads 38) [0, 1, 5] (laws_markWriteS_vo_v0 x)) (laws_markWriteS_vo_s0 x) = laws_markWriteS_vo_b0 x (Sum.elim (fun y => some ⟨.norm, laws_markWriteS_vo_v0 y, laws_markWriteS_vo_s0 y⟩) fun z => some ⟨(laws_markWriteS_vo_e0 z).1, (laws_markWriteS_vo_e0 z).2.1, (laws_markWriteS_vo_e0 z).2.2⟩) := by
  kernel_rfl

theorem laws_markWriteS_vo_lo0 : ∀ sp, (laws_markWriteS_vo_loops 0) = some sp → LoopOk G37 ⟨1, 38, laws_markWriteS_vo_loops⟩ sp (loopBody Try.f47 0) := by
  intro sp hsp vals st k r h
  cases hsp
  dsimp only at h
  rcases onPats_inv2 h with ⟨p, q, rfl, rfl, h⟩ | h
  · exact loop_runs2 laws_markWriteS_vo_bp0 laws_markWriteS_vo_v0 laws_markWriteS_vo_s0 laws_markWriteS_vo_e0 (fun z => by (intro h; cases h)) laws_markWriteS_vo_bx0 Fuel (p.2.1, p.2.2.1, q.1) _ k r (fun z => rfl) h
  cases h

theorem laws_markWriteS_vo_x (a0 : Int) (a1 : (List dWrite)) : execFn G37 laws_markWriteS_vo_loops Try.f47 [.own 0, .int .i64 a0] [.arr tWrite a1] = laws_markWriteS_vo_d a0 a1 (fun (y : (Int × (List dWrite))) => some ⟨.ret, [.int .i64 y.1], [.arr tWrite y.2]⟩) := by kernel_rfl

theorem laws_markWriteS_vo_y (a0 : Int) (a1 : (List dWrite)) : execFn G37 laws_markWriteS_vo_loops Try.f47 [.own 0, .int .i64 a0] [.arr tWrite a1] = laws_markWriteS_vo_k a0 a1 (fun (y : (Int × (List dWrite))) => some ⟨.ret, [.int .i64 y.1], [.arr tWrite y.2]⟩) := (laws_markWriteS_vo_x a0 a1).trans (by rw [laws_markWriteS_vo_e])

theorem laws_markWriteS_vo_l : LoopsOk G37 ⟨1, 38, laws_markWriteS_vo_loops⟩ (Try.f47.body.getD .skip) :=
  loopsOk_of (ids := [0]) (by kernel_rfl) (by kernel_rfl) ⟨laws_markWriteS_vo_lo0, trivial⟩

theorem laws_markWriteS_c : Contract Try.prog 47 laws_markWriteS_g := by
  refine told G37_ok follows Try.func47 (c := Try.f47.body.getD .skip) (by kernel_rfl) ?_
  intro args s k r hk
  unfold laws_markWriteS_g at hk
  rcases onPats_inv hk with ⟨p, q, rfl, rfl⟩ | hk
  · exact ⟨laws_markWriteS_vo_loops, laws_markWriteS_vo_q p.2.1 q.1, laws_markWriteS_vo_y p.2.1 q.1, laws_markWriteS_vo_l⟩
  cases hk

def G38 : Glob := G37.add 47 laws_markWriteS_g

theorem G38_ok : GlobOk Try.prog G38 := G37_ok.add ⟨Try.f47, Try.func47, by kernel_rfl, by kernel_rfl⟩ laws_markWriteS_c

/-! ### loop.example/g00327/laws.markTxn -/

def laws_markTxn_va_loops : Nat → Option LoopSpec
  | _ => none

theorem laws_markTxn_va_x (a0 : Int) (a1 : Int) (a2 : Int) (a3 : Int) (a4 : Bool) (a5 : ByteArray) (a6 : Int) (a7 : (List dRange)) (a8 : (List dWrite)) : execFn G38 laws_markTxn_va_loops Try.f58 [.agg [.int .i64 a0, .int .i64 a1, .int .i64 a2, .int .i64 a3, .own 0, .own 1, .bool a4, .str a5], .int .i64 a6] [.arr tRange a7, .arr tWrite a8] = laws_markTxn_va_d a0 a1 a2 a3 a4 a5 a6 a7 a8 (fun (y : (Int × (List dRange) × (List dWrite))) => some ⟨.ret, [.int .i64 y.1], [.arr tRange y.2.1, .arr tWrite y.2.2]⟩) := by kernel_rfl

theorem laws_markTxn_va_y (a0 : Int) (a1 : Int) (a2 : Int) (a3 : Int) (a4 : Bool) (a5 : ByteArray) (a6 : Int) (a7 : (List dRange)) (a8 : (List dWrite)) : execFn G38 laws_markTxn_va_loops Try.f58 [.agg [.int .i64 a0, .int .i64 a1, .int .i64 a2, .int .i64 a3, .own 0, .own 1, .bool a4, .str a5], .int .i64 a6] [.arr tRange a7, .arr tWrite a8] = laws_markTxn_va_k a0 a1 a2 a3 a4 a5 a6 a7 a8 (fun (y : (Int × (List dRange) × (List dWrite))) => some ⟨.ret, [.int .i64 y.1], [.arr tRange y.2.1, .arr tWrite y.2.2]⟩) := (laws_markTxn_va_x a0 a1 a2 a3 a4 a5 a6 a7 a8).trans (by rw [laws_markTxn_va_e])

theorem laws_markTxn_va_l : LoopsOk G38 ⟨2, 14, laws_markTxn_va_loops⟩ (Try.f58.body.getD .skip) :=
  loopsOk_of (ids := []) (by kernel_rfl) (by kernel_rfl) trivial

theorem laws_markTxn_c : Contract Try.prog 58 laws_markTxn_g := by
  refine told G38_ok follows Try.func58 (c := Try.f58.body.getD .skip) (by kernel_rfl) ?_
  intro args s k r hk
  unfold laws_markTxn_g at hk
  rcases onPats_inv hk with ⟨p, q, rfl, rfl⟩ | hk
  · exact ⟨laws_markTxn_va_loops, laws_markTxn_va_q p.1.1 p.1.2.1 p.1.2.2.1 p.1.2.2.2.1 p.1.2.2.2.2.2.2.1 p.1.2.2.2.2.2.2.2.1 p.2.1 q.1 q.2.1, laws_markTxn_va_y p.1.1 p.1.2.1 p.1.2.2.1 p.1.2.2.2.1 p.1.2.2.2.2.2.2.1 p.1.2.2.2.2.2.2.2.1 p.2.1 q.1 q.2.1, laws_markTxn_va_l⟩
  cases hk

def G39 : Glob := G38.add 58 laws_markTxn_g

theorem G39_ok : GlobOk Try.prog G39 := G38_ok.add ⟨Try.f58, Try.func58, by kernel_rfl, by kernel_rfl⟩ laws_markTxn_c

/-! ### loop.example/g00327/laws.heldRangeS -/

def laws_heldRangeS_loops : Nat → Option LoopSpec
  | 0 => some ⟨[0, 1, 4, 5], [], fun vals st k => onPats [.lst tRange, .int .i64, .int .i64, .int .i64] [] vals st (fun p q => loopK laws_heldRangeS_b0 Fuel (p.1, p.2.1, p.2.2.1, p.2.2.2.1) (Sum.elim (fun z => k .ret [.lst tRange z.1, .int .i64 z.2.1, .int .i64 z.2.2.1, .int .i64 z.2.2.2] []) (fun z => k (.exit 0) [.lst tRange z.1, .int .i64 z.2.1, .int .i64 z.2.2.1, .int .i64 z.2.2.2] [])))
      (none)⟩
  | 2000004 => some ⟨[0, 2, 4, 6, 8, 10, 13, 14], [], fun _ _ _ => none⟩
  | 2000007 => some ⟨[0, 2, 4, 6, 8, 10, 13, 14], [], fun _ _ _ => none⟩
  | _ => none

def laws_heldRangeS_v0 : ((List dRange) × Int × Int × Int) → List AV := (fun x => [.lst tRange x.1, .int .i64 x.2.1, .int .i64 x.2.2.1, .int .i64 x.2.2.2])
def laws_heldRangeS_s0 : ((List dRange) × Int × Int × Int) → St := (fun x => [])
def laws_heldRangeS_e0 : (((List dRange) × Int × Int × Int) ⊕ ((List dRange) × Int × Int × Int)) → Out × List AV × St := (Sum.elim (fun z => (.ret, [.lst tRange z.1, .int .i64 z.2.1, .int .i64 z.2.2.1, .int .i64 z.2.2.2], [])) (fun z => ((.exit 0), [.lst tRange z.1, .int .i64 z.2.1, .int .i64 z.2.2.1, .int .i64 z.2.2.2], [])))

theorem laws_heldRangeS_bx0 (x : ((List dRange) × Int × Int × Int)) : exec G39 ⟨0, 33, laws_heldRangeS_loops⟩ (loopBody Try.f133 0) (bodyK ⟨0, 33, laws_heldRangeS_loops⟩ [0, 1, 4, 5] []) (setEs (deads 33) [0, 1, 4, 5] (laws_heldRangeS_v0 x)) (laws_heldRangeS_s0 x) = laws_heldRangeS_b0 x (Sum.elim (fun y => some ⟨.norm, laws_heldRangeS_v0 y, laws_heldRangeS_s0 y⟩) fun z => some ⟨(laws_heldRangeS_e0 z).1, (laws_heldRangeS_e0 z).2.1, (laws_heldRangeS_e0 z).2.2⟩) := by
  kernel_rfl

theorem laws_heldRangeS_lo0 : ∀ sp, (laws_heldRangeS_loops 0) = some sp → LoopOk G39 ⟨0, 33, laws_heldRangeS_loops⟩ sp (loopBody Try.f133 0) := by
  intro sp hsp vals st k r h
  cases hsp
  dsimp only at h
  rcases onPats_inv2 h with ⟨p, q, rfl, rfl, h⟩ | h
  · exact loop_runs2 laws_heldRangeS_bp0 laws_heldRangeS_v0 laws_heldRangeS_s0 laws_heldRangeS_e0 (fun z => by rcases z with z | z <;> (intro h; cases h)) laws_heldRangeS_bx0 Fuel (p.1, p.2.1, p.2.2.1, p.2.2.2.1) _ k r (fun z => by rcases z with z | z <;> rfl) h
  cases h

theorem laws_heldRangeS_x (a0 : (List dRange)) (a1 : Int) : execFn G39 laws_heldRangeS_loops Try.f133 [.lst tRange a0, .int .i64 a1] [] = laws_heldRangeS_d a0 a1 (fun (y : Int) => some ⟨.ret, [.int .i64 y], []⟩) := by kernel_rfl

theorem laws_heldRangeS_y (a0 : (List dRange)) (a1 : Int) : execFn G39 laws_heldRangeS_loops Try.f133 [.lst tRange a0, .int .i64 a1] [] = laws_heldRangeS_k a0 a1 (fun (y : Int) => some ⟨.ret, [.int .i64 y], []⟩) := (laws_heldRangeS_x a0 a1).trans (by rw [laws_heldRangeS_e])

theorem laws_heldRangeS_l : LoopsOk G39 ⟨0, 33, laws_heldRangeS_loops⟩ (Try.f133.body.getD .skip) :=
  loopsOk_of (ids := [0]) (by kernel_rfl) (by kernel_rfl) ⟨laws_heldRangeS_lo0, trivial⟩

theorem laws_heldRangeS_c : Contract Try.prog 133 laws_heldRangeS_g := by
  refine told G39_ok follows Try.func133 (c := Try.f133.body.getD .skip) (by kernel_rfl) ?_
  intro args s k r hk
  unfold laws_heldRangeS_g at hk
  rcases onPats_inv hk with ⟨p, q, rfl, rfl⟩ | hk
  · exact ⟨laws_heldRangeS_loops, laws_heldRangeS_q p.1 p.2.1, laws_heldRangeS_y p.1 p.2.1, laws_heldRangeS_l⟩
  cases hk

def G40 : Glob := G39.add 133 laws_heldRangeS_g

theorem G40_ok : GlobOk Try.prog G40 := G39_ok.add ⟨Try.f133, Try.func133, by kernel_rfl, by kernel_rfl⟩ laws_heldRangeS_c

/-! ### loop.example/g00327/laws.heldWriteS -/

def laws_heldWriteS_loops : Nat → Option LoopSpec
  | 0 => some ⟨[0, 1, 4, 5], [], fun vals st k => onPats [.lst tWrite, .int .i64, .int .i64, .int .i64] [] vals st (fun p q => loopK laws_heldWriteS_b0 Fuel (p.1, p.2.1, p.2.2.1, p.2.2.2.1) (Sum.elim (fun z => k .ret [.lst tWrite z.1, .int .i64 z.2.1, .int .i64 z.2.2.1, .int .i64 z.2.2.2] []) (fun z => k (.exit 0) [.lst tWrite z.1, .int .i64 z.2.1, .int .i64 z.2.2.1, .int .i64 z.2.2.2] [])))
      (none)⟩
  | 2000004 => some ⟨[0, 2, 4, 6, 8, 10, 13, 14], [], fun _ _ _ => none⟩
  | 2000007 => some ⟨[0, 2, 4, 6, 8, 10, 13, 14], [], fun _ _ _ => none⟩
  | _ => none

def laws_heldWriteS_v0 : ((List dWrite) × Int × Int × Int) → List AV := (fun x => [.lst tWrite x.1, .int .i64 x.2.1, .int .i64 x.2.2.1, .int .i64 x.2.2.2])
def laws_heldWriteS_s0 : ((List dWrite) × Int × Int × Int) → St := (fun x => [])
def laws_heldWriteS_e0 : (((List dWrite) × Int × Int × Int) ⊕ ((List dWrite) × Int × Int × Int)) → Out × List AV × St := (Sum.elim (fun z => (.ret, [.lst tWrite z.1, .int .i64 z.2.1, .int .i64 z.2.2.1, .int .i64 z.2.2.2], [])) (fun z => ((.exit 0), [.lst tWrite z.1, .int .i64 z.2.1, .int .i64 z.2.2.1, .int .i64 z.2.2.2], [])))

theorem laws_heldWriteS_bx0 (x : ((List dWrite) × Int × Int × Int)) : exec G40 ⟨0, 44, laws_heldWriteS_loops⟩ (loopBody Try.f134 0) (bodyK ⟨0, 44, laws_heldWriteS_loops⟩ [0, 1, 4, 5] []) (setEs (deads 44) [0, 1, 4, 5] (laws_heldWriteS_v0 x)) (laws_heldWriteS_s0 x) = laws_heldWriteS_b0 x (Sum.elim (fun y => some ⟨.norm, laws_heldWriteS_v0 y, laws_heldWriteS_s0 y⟩) fun z => some ⟨(laws_heldWriteS_e0 z).1, (laws_heldWriteS_e0 z).2.1, (laws_heldWriteS_e0 z).2.2⟩) := by
  kernel_rfl

theorem laws_heldWriteS_lo0 : ∀ sp, (laws_heldWriteS_loops 0) = some sp → LoopOk G40 ⟨0, 44, laws_heldWriteS_loops⟩ sp (loopBody Try.f134 0) := by
  intro sp hsp vals st k r h
  cases hsp
  dsimp only at h
  rcases onPats_inv2 h with ⟨p, q, rfl, rfl, h⟩ | h
  · exact loop_runs2 laws_heldWriteS_bp0 laws_heldWriteS_v0 laws_heldWriteS_s0 laws_heldWriteS_e0 (fun z => by rcases z with z | z <;> (intro h; cases h)) laws_heldWriteS_bx0 Fuel (p.1, p.2.1, p.2.2.1, p.2.2.2.1) _ k r (fun z => by rcases z with z | z <;> rfl) h
  cases h

theorem laws_heldWriteS_x (a0 : (List dWrite)) (a1 : Int) : execFn G40 laws_heldWriteS_loops Try.f134 [.lst tWrite a0, .int .i64 a1] [] = laws_heldWriteS_d a0 a1 (fun (y : Int) => some ⟨.ret, [.int .i64 y], []⟩) := by kernel_rfl

theorem laws_heldWriteS_y (a0 : (List dWrite)) (a1 : Int) : execFn G40 laws_heldWriteS_loops Try.f134 [.lst tWrite a0, .int .i64 a1] [] = laws_heldWriteS_k a0 a1 (fun (y : Int) => some ⟨.ret, [.int .i64 y], []⟩) := (laws_heldWriteS_x a0 a1).trans (by rw [laws_heldWriteS_e])

theorem laws_heldWriteS_l : LoopsOk G40 ⟨0, 44, laws_heldWriteS_loops⟩ (Try.f134.body.getD .skip) :=
  loopsOk_of (ids := [0]) (by kernel_rfl) (by kernel_rfl) ⟨laws_heldWriteS_lo0, trivial⟩

theorem laws_heldWriteS_c : Contract Try.prog 134 laws_heldWriteS_g := by
  refine told G40_ok follows Try.func134 (c := Try.f134.body.getD .skip) (by kernel_rfl) ?_
  intro args s k r hk
  unfold laws_heldWriteS_g at hk
  rcases onPats_inv hk with ⟨p, q, rfl, rfl⟩ | hk
  · exact ⟨laws_heldWriteS_loops, laws_heldWriteS_q p.1 p.2.1, laws_heldWriteS_y p.1 p.2.1, laws_heldWriteS_l⟩
  cases hk

def G41 : Glob := G40.add 134 laws_heldWriteS_g

theorem G41_ok : GlobOk Try.prog G41 := G40_ok.add ⟨Try.f134, Try.func134, by kernel_rfl, by kernel_rfl⟩ laws_heldWriteS_c

/-! ### loop.example/g00327/laws.heldTxn -/

def laws_heldTxn_loops : Nat → Option LoopSpec
  | _ => none

theorem laws_heldTxn_x (a0 : Int) (a1 : Int) (a2 : Int) (a3 : Int) (a4 : (List dRange)) (a5 : (List dWrite)) (a6 : Bool) (a7 : ByteArray) (a8 : Int) : execFn G41 laws_heldTxn_loops Try.f59 [.agg [.int .i64 a0, .int .i64 a1, .int .i64 a2, .int .i64 a3, .lst tRange a4, .lst tWrite a5, .bool a6, .str a7], .int .i64 a8] [] = laws_heldTxn_d (a0, (a1, (a2, (a3, (a4, (a5, (a6, a7))))))) a8 (fun (y : Int) => some ⟨.ret, [.int .i64 y], []⟩) := by kernel_rfl

theorem laws_heldTxn_y (a0 : Int) (a1 : Int) (a2 : Int) (a3 : Int) (a4 : (List dRange)) (a5 : (List dWrite)) (a6 : Bool) (a7 : ByteArray) (a8 : Int) : execFn G41 laws_heldTxn_loops Try.f59 [.agg [.int .i64 a0, .int .i64 a1, .int .i64 a2, .int .i64 a3, .lst tRange a4, .lst tWrite a5, .bool a6, .str a7], .int .i64 a8] [] = laws_heldTxn_k (a0, (a1, (a2, (a3, (a4, (a5, (a6, a7))))))) a8 (fun (y : Int) => some ⟨.ret, [.int .i64 y], []⟩) := (laws_heldTxn_x a0 a1 a2 a3 a4 a5 a6 a7 a8).trans (by rw [laws_heldTxn_e])

theorem laws_heldTxn_l : LoopsOk G41 ⟨0, 18, laws_heldTxn_loops⟩ (Try.f59.body.getD .skip) :=
  loopsOk_of (ids := []) (by kernel_rfl) (by kernel_rfl) trivial

theorem laws_heldTxn_c : Contract Try.prog 59 laws_heldTxn_g := by
  refine told G41_ok follows Try.func59 (c := Try.f59.body.getD .skip) (by kernel_rfl) ?_
  intro args s k r hk
  unfold laws_heldTxn_g at hk
  rcases onPats_inv hk with ⟨p, q, rfl, rfl⟩ | hk
  · exact ⟨laws_heldTxn_loops, laws_heldTxn_q p.1.1 p.1.2.1 p.1.2.2.1 p.1.2.2.2.1 p.1.2.2.2.2.1 p.1.2.2.2.2.2.1 p.1.2.2.2.2.2.2.1 p.1.2.2.2.2.2.2.2.1 p.2.1, laws_heldTxn_y p.1.1 p.1.2.1 p.1.2.2.1 p.1.2.2.2.1 p.1.2.2.2.2.1 p.1.2.2.2.2.2.1 p.1.2.2.2.2.2.2.1 p.1.2.2.2.2.2.2.2.1 p.2.1, laws_heldTxn_l⟩
  cases hk

def G42 : Glob := G41.add 59 laws_heldTxn_g

theorem G42_ok : GlobOk Try.prog G42 := G41_ok.add ⟨Try.f59, Try.func59, by kernel_rfl, by kernel_rfl⟩ laws_heldTxn_c

/-! ### loop.example/g00327/laws.FnExactReadTxn -/

def laws_FnExactReadTxn_loops : Nat → Option LoopSpec
  | 5000018 => some ⟨[4, 8, 11], [], fun vals st k => onPats [.bool, .bp 0 0, .int .i64] [.box [.int .i64, .int .i64, .int .i64, .int .i64, .own 1, .own 2, .bool, .str], .arr tRange, .arr tWrite] vals st (fun p q => laws_FnExactReadTxn_j5000018 (p.1, p.2.2.1, q.1.1, q.1.2.1, q.1.2.2.1, q.1.2.2.2.1, q.1.2.2.2.2.2.2.1, q.1.2.2.2.2.2.2.2.1, q.2.1, q.2.2.1) (fun z => k .ret [.bool z.1, .bp 0 0, .int .i64 z.2.1] [.box [.int .i64 z.2.2.1, .int .i64 z.2.2.2.1, .int .i64 z.2.2.2.2.1, .int .i64 z.2.2.2.2.2.1, .own 1, .own 2, .bool z.2.2.2.2.2.2.1, .str z.2.2.2.2.2.2.2.1], .arr tRange z.2.2.2.2.2.2.2.2.1, .arr tWrite z.2.2.2.2.2.2.2.2.2]))
      (none)⟩
  | 5000007 => some ⟨[0, 1, 4, 5, 6, 7, 8], [], fun vals st k => onPats [.str, .int .i64, .bool, .bp 0 0, .int .i64, .bool, .bp 1 0] [.box [.int .i64, .int .i64, .int .i64, .int .i64, .own 2, .own 3, .bool, .str], .box [.int .i64, .int .i64, .int .i64, .int .i64, .own 4, .own 5, .bool, .str], .arr tRange, .arr tWrite, .arr tRange, .arr tWrite] vals st (fun p q => laws_FnExactReadTxn_j5000007 (p.1, p.2.1, p.2.2.1, p.2.2.2.2.1, p.2.2.2.2.2.1, q.1.1, q.1.2.1, q.1.2.2.1, q.1.2.2.2.1, q.1.2.2.2.2.2.2.1, q.1.2.2.2.2.2.2.2.1, q.2.1.1, q.2.1.2.1, q.2.1.2.2.1, q.2.1.2.2.2.1, q.2.1.2.2.2.2.2.2.1, q.2.1.2.2.2.2.2.2.2.1, q.2.2.1, q.2.2.2.1, q.2.2.2.2.1, q.2.2.2.2.2.1) (Sum.elim (fun z => k .ret [.str z.1, .int .i64 z.2.1, .bool z.2.2.1, .bp 0 0, .int .i64 z.2.2.2.1, .bool z.2.2.2.2.1, .bp 1 0] [.box [.int .i64 z.2.2.2.2.2.1, .int .i64 z.2.2.2.2.2.2.1, .int .i64 z.2.2.2.2.2.2.2.1, .int .i64 z.2.2.2.2.2.2.2.2.1, .own 2, .own 3, .bool z.2.2.2.2.2.2.2.2.2.1, .str z.2.2.2.2.2.2.2.2.2.2.1], .box [.int .i64 z.2.2.2.2.2.2.2.2.2.2.2.1, .int .i64 z.2.2.2.2.2.2.2.2.2.2.2.2.1, .int .i64 z.2.2.2.2.2.2.2.2.2.2.2.2.2.1, .int .i64 z.2.2.2.2.2.2.2.2.2.2.2.2.2.2.1, .own 4, .own 5, .bool z.2.2.2.2.2.2.2.2.2.2.2.2.2.2.2.1, .str z.2.2.2.2.2.2.2.2.2.2.2.2.2.2.2.2.1], .arr tRange z.2.2.2.2.2.2.2.2.2.2.2.2.2.2.2.2.2.1, .arr tWrite z.2.2.2.2.2.2.2.2.2.2.2.2.2.2.2.2.2.2.1, .arr tRange z.2.2.2.2.2.2.2.2.2.2.2.2.2.2.2.2.2.2.2.1, .arr tWrite z.2.2.2.2.2.2.2.2.2.2.2.2.2.2.2.2.2.2.2.2]) (fun z => k .ret [.dead, .dead, .bool z.1, .dead, .dead, .dead, .bp 0 0] [.box [.int .i64 z.2.1, .int .i64 z.2.2.1, .int .i64 z.2.2.2.1, .int .i64 z.2.2.2.2.1, .own 1, .own 2, .bool z.2.2.2.2.2.1, .str z.2.2.2.2.2.2.1], .arr tRange z.2.2.2.2.2.2.2.1, .arr tWrite z.2.2.2.2.2.2.2.2])))
      (none)⟩
  | _ => none

def laws_FnExactReadTxn_jv5000018 : (Bool × Int × Int × Int × Int × Int × Bool × ByteArray × (List dRange) × (List dWrite)) → List AV := (fun x => [.bool x.1, .bp 0 0, .int .i64 x.2.1])
def laws_FnExactReadTxn_js5000018 : (Bool × Int × Int × Int × Int × Int × Bool × ByteArray × (List dRange) × (List dWrite)) → St := (fun x => [.box [.int .i64 x.2.2.1, .int .i64 x.2.2.2.1, .int .i64 x.2.2.2.2.1, .int .i64 x.2.2.2.2.2.1, .own 1, .own 2, .bool x.2.2.2.2.2.2.1, .str x.2.2.2.2.2.2.2.1], .arr tRange x.2.2.2.2.2.2.2.2.1, .arr tWrite x.2.2.2.2.2.2.2.2.2])
def laws_FnExactReadTxn_je5000018 : (Bool × Int × Int × Int × Int × Int × Bool × ByteArray × (List dRange) × (List dWrite)) → Out × List AV × St := (fun z => (.ret, [.bool z.1, .bp 0 0, .int .i64 z.2.1], [.box [.int .i64 z.2.2.1, .int .i64 z.2.2.2.1, .int .i64 z.2.2.2.2.1, .int .i64 z.2.2.2.2.2.1, .own 1, .own 2, .bool z.2.2.2.2.2.2.1, .str z.2.2.2.2.2.2.2.1], .arr tRange z.2.2.2.2.2.2.2.2.1, .arr tWrite z.2.2.2.2.2.2.2.2.2]))

theorem laws_FnExactReadTxn_jx5000018 (x : (Bool × Int × Int × Int × Int × Int × Bool × ByteArray × (List dRange) × (List dWrite))) : exec G42 ⟨0, 87, laws_FnExactReadTxn_loops⟩ (loopBody Try.f9 5000018) (bodyK ⟨0, 87, laws_FnExactReadTxn_loops⟩ [4, 8, 11] []) (setEs (deads 87) [4, 8, 11] (laws_FnExactReadTxn_jv5000018 x)) (laws_FnExactReadTxn_js5000018 x) = laws_FnExactReadTxn_j5000018 x (fun z => some ⟨(laws_FnExactReadTxn_je5000018 z).1, (laws_FnExactReadTxn_je5000018 z).2.1, (laws_FnExactReadTxn_je5000018 z).2.2⟩) := by
  kernel_rfl

theorem laws_FnExactReadTxn_lo5000018 : ∀ sp, (laws_FnExactReadTxn_loops 5000018) = some sp → CutOk G42 ⟨0, 87, laws_FnExactReadTxn_loops⟩ sp (loopBody Try.f9 5000018) := by
  intro sp hsp vals st k r h
  cases hsp
  dsimp only at h
  rcases onPats_inv2 h with ⟨p, q, rfl, rfl, h⟩ | h
  · exact cut_runs laws_FnExactReadTxn_jp5000018 laws_FnExactReadTxn_jv5000018 laws_FnExactReadTxn_js5000018 laws_FnExactReadTxn_je5000018 laws_FnExactReadTxn_jx5000018 (p.1, p.2.2.1, q.1.1, q.1.2.1, q.1.2.2.1, q.1.2.2.2.1, q.1.2.2.2.2.2.2.1, q.1.2.2.2.2.2.2.2.1, q.2.1, q.2.2.1) _ k r (fun z => rfl) h
  cases h

def laws_FnExactReadTxn_jv5000007 : (ByteArray × Int × Bool × Int × Bool × Int × Int × Int × Int × Bool × ByteArray × Int × Int × Int × Int × Bool × ByteArray × (List dRange) × (List dWrite) × (List dRange) × (List dWrite)) → List AV := (fun x => [.str x.1, .int .i64 x.2.1, .bool x.2.2.1, .bp 0 0, .int .i64 x.2.2.2.1, .bool x.2.2.2.2.1, .bp 1 0])
def laws_FnExactReadTxn_js5000007 : (ByteArray × Int × Bool × Int × Bool × Int × Int × Int × Int × Bool × ByteArray × Int × Int × Int × Int × Bool × ByteArray × (List dRange) × (List dWrite) × (List dRange) × (List dWrite)) → St := (fun x => [.box [.int .i64 x.2.2.2.2.2.1, .int .i64 x.2.2.2.2.2.2.1, .int .i64 x.2.2.2.2.2.2.2.1, .int .i64 x.2.2.2.2.2.2.2.2.1, .own 2, .own 3, .bool x.2.2.2.2.2.2.2.2.2.1, .str x.2.2.2.2.2.2.2.2.2.2.1], .box [.int .i64 x.2.2.2.2.2.2.2.2.2.2.2.1, .int .i64 x.2.2.2.2.2.2.2.2.2.2.2.2.1, .int .i64 x.2.2.2.2.2.2.2.2.2.2.2.2.2.1, .int .i64 x.2.2.2.2.2.2.2.2.2.2.2.2.2.2.1, .own 4, .own 5, .bool x.2.2.2.2.2.2.2.2.2.2.2.2.2.2.2.1, .str x.2.2.2.2.2.2.2.2.2.2.2.2.2.2.2.2.1], .arr tRange x.2.2.2.2.2.2.2.2.2.2.2.2.2.2.2.2.2.1, .arr tWrite x.2.2.2.2.2.2.2.2.2.2.2.2.2.2.2.2.2.2.1, .arr tRange x.2.2.2.2.2.2.2.2.2.2.2.2.2.2.2.2.2.2.2.1, .arr tWrite x.2.2.2.2.2.2.2.2.2.2.2.2.2.2.2.2.2.2.2.2])
def laws_FnExactReadTxn_je5000007 : ((ByteArray × Int × Bool × Int × Bool × Int × Int × Int × Int × Bool × ByteArray × Int × Int × Int × Int × Bool × ByteArray × (List dRange) × (List dWrite) × (List dRange) × (List dWrite)) ⊕ (Bool × Int × Int × Int × Int × Bool × ByteArray × (List dRange) × (List dWrite))) → Out × List AV × St := (Sum.elim (fun z => (.ret, [.str z.1, .int .i64 z.2.1, .bool z.2.2.1, .bp 0 0, .int .i64 z.2.2.2.1, .bool z.2.2.2.2.1, .bp 1 0], [.box [.int .i64 z.2.2.2.2.2.1, .int .i64 z.2.2.2.2.2.2.1, .int .i64 z.2.2.2.2.2.2.2.1, .int .i64 z.2.2.2.2.2.2.2.2.1, .own 2, .own 3, .bool z.2.2.2.2.2.2.2.2.2.1, .str z.2.2.2.2.2.2.2.2.2.2.1], .box [.int .i64 z.2.2.2.2.2.2.2.2.2.2.2.1, .int .i64 z.2.2.2.2.2.2.2.2.2.2.2.2.1, .int .i64 z.2.2.2.2.2.2.2.2.2.2.2.2.2.1, .int .i64 z.2.2.2.2.2.2.2.2.2.2.2.2.2.2.1, .own 4, .own 5, .bool z.2.2.2.2.2.2.2.2.2.2.2.2.2.2.2.1, .str z.2.2.2.2.2.2.2.2.2.2.2.2.2.2.2.2.1], .arr tRange z.2.2.2.2.2.2.2.2.2.2.2.2.2.2.2.2.2.1, .arr tWrite z.2.2.2.2.2.2.2.2.2.2.2.2.2.2.2.2.2.2.1, .arr tRange z.2.2.2.2.2.2.2.2.2.2.2.2.2.2.2.2.2.2.2.1, .arr tWrite z.2.2.2.2.2.2.2.2.2.2.2.2.2.2.2.2.2.2.2.2])) (fun z => (.ret, [.dead, .dead, .bool z.1, .dead, .dead, .dead, .bp 0 0], [.box [.int .i64 z.2.1, .int .i64 z.2.2.1, .int .i64 z.2.2.2.1, .int .i64 z.2.2.2.2.1, .own 1, .own 2, .bool z.2.2.2.2.2.1, .str z.2.2.2.2.2.2.1], .arr tRange z.2.2.2.2.2.2.2.1, .arr tWrite z.2.2.2.2.2.2.2.2])))

theorem laws_FnExactReadTxn_jx5000007 (x : (ByteArray × Int × Bool × Int × Bool × Int × Int × Int × Int × Bool × ByteArray × Int × Int × Int × Int × Bool × ByteArray × (List dRange) × (List dWrite) × (List dRange) × (List dWrite))) : exec G42 ⟨0, 87, laws_FnExactReadTxn_loops⟩ (loopBody Try.f9 5000007) (bodyK ⟨0, 87, laws_FnExactReadTxn_loops⟩ [0, 1, 4, 5, 6, 7, 8] []) (setEs (deads 87) [0, 1, 4, 5, 6, 7, 8] (laws_FnExactReadTxn_jv5000007 x)) (laws_FnExactReadTxn_js5000007 x) = laws_FnExactReadTxn_j5000007 x (fun z => some ⟨(laws_FnExactReadTxn_je5000007 z).1, (laws_FnExactReadTxn_je5000007 z).2.1, (laws_FnExactReadTxn_je5000007 z).2.2⟩) := by
  kernel_rfl

theorem laws_FnExactReadTxn_lo5000007 : ∀ sp, (laws_FnExactReadTxn_loops 5000007) = some sp → CutOk G42 ⟨0, 87, laws_FnExactReadTxn_loops⟩ sp (loopBody Try.f9 5000007) := by
  intro sp hsp vals st k r h
  cases hsp
  dsimp only at h
  rcases onPats_inv2 h with ⟨p, q, rfl, rfl, h⟩ | h
  · exact cut_runs laws_FnExactReadTxn_jp5000007 laws_FnExactReadTxn_jv5000007 laws_FnExactReadTxn_js5000007 laws_FnExactReadTxn_je5000007 laws_FnExactReadTxn_jx5000007 (p.1, p.2.1, p.2.2.1, p.2.2.2.2.1, p.2.2.2.2.2.1, q.1.1, q.1.2.1, q.1.2.2.1, q.1.2.2.2.1, q.1.2.2.2.2.2.2.1, q.1.2.2.2.2.2.2.2.1, q.2.1.1, q.2.1.2.1, q.2.1.2.2.1, q.2.1.2.2.2.1, q.2.1.2.2.2.2.2.2.1, q.2.1.2.2.2.2.2.2.2.1, q.2.2.1, q.2.2.2.1, q.2.2.2.2.1, q.2.2.2.2.2.1) _ k r (fun z => by rcases z with z | z <;> rfl) h
  cases h

theorem laws_FnExactReadTxn_x (a0 : ByteArray) (a1 : Int) : execFn G42 laws_FnExactReadTxn_loops Try.f9 [.str a0, .int .i64 a1] [] = laws_FnExactReadTxn_d a0 a1 (fun (y : Bool) => some ⟨.ret, [.bool y], []⟩) := by kernel_rfl

theorem laws_FnExactReadTxn_y (a0 : ByteArray) (a1 : Int) : execFn G42 laws_FnExactReadTxn_loops Try.f9 [.str a0, .int .i64 a1] [] = laws_FnExactReadTxn_k a0 a1 (fun (y : Bool) => some ⟨.ret, [.bool y], []⟩) := (laws_FnExactReadTxn_x a0 a1).trans (by rw [laws_FnExactReadTxn_e])

theorem laws_FnExactReadTxn_l : LoopsOk G42 ⟨0, 87, laws_FnExactReadTxn_loops⟩ (Try.f9.body.getD .skip) :=
  loopsOk_of (ids := [5000018, 5000007]) (by kernel_rfl) (by kernel_rfl) ⟨laws_FnExactReadTxn_lo5000018, ⟨laws_FnExactReadTxn_lo5000007, trivial⟩⟩

theorem laws_FnExactReadTxn_c : Contract Try.prog 9 laws_FnExactReadTxn_g := by
  refine told G42_ok follows Try.func9 (c := Try.f9.body.getD .skip) (by kernel_rfl) ?_
  intro args s k r hk
  unfold laws_FnExactReadTxn_g at hk
  rcases onPats_inv hk with ⟨p, q, rfl, rfl⟩ | hk
  · exact ⟨laws_FnExactReadTxn_loops, laws_FnExactReadTxn_q p.1 p.2.1, laws_FnExactReadTxn_y p.1 p.2.1, laws_FnExactReadTxn_l⟩
  cases hk

def G43 : Glob := G42.add 9 laws_FnExactReadTxn_g

theorem G43_ok : GlobOk Try.prog G43 := G42_ok.add ⟨Try.f9, Try.func9, by kernel_rfl, by kernel_rfl⟩ laws_FnExactReadTxn_c

end

end Go.VE
