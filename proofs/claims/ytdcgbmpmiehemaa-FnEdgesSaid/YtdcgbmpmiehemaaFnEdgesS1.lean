/- Each function told by its native program; written by gen.py. -/

import Derived.Test.YtdcgbmpmiehemaaFnEdgesS0

namespace Go.VE

open Go.Proofs

noncomputable section

set_option linter.unusedVariables false
set_option linter.unusedSimpArgs false
set_option maxRecDepth 100000


/-! ### loop.example/g00327/laws.big -/

def laws_big_loops : Nat → Option LoopSpec
  | _ => none

theorem laws_big_x (a0 : (List Int)) : execFn G0 laws_big_loops Try.f20 [.lst (.int .u8) a0] [] = laws_big_d a0 (fun (y : Bool) => some ⟨.ret, [.bool y], []⟩) := by kernel_rfl

theorem laws_big_y (a0 : (List Int)) : execFn G0 laws_big_loops Try.f20 [.lst (.int .u8) a0] [] = laws_big_k a0 (fun (y : Bool) => some ⟨.ret, [.bool y], []⟩) := (laws_big_x a0).trans (by rw [laws_big_e])

theorem laws_big_l : LoopsOk G0 ⟨0, 6, laws_big_loops⟩ (Try.f20.body.getD .skip) :=
  loopsOk_of (ids := []) (by kernel_rfl) (by kernel_rfl) trivial

theorem laws_big_c : Contract Try.prog 20 laws_big_g := by
  refine told G0_ok follows Try.func20 (c := Try.f20.body.getD .skip) (by kernel_rfl) ?_
  intro args s k r hk
  unfold laws_big_g at hk
  rcases onPats_inv hk with ⟨p, q, rfl, rfl⟩ | hk
  · exact ⟨laws_big_loops, laws_big_q p.1, laws_big_y p.1, laws_big_l⟩
  cases hk

def G1 : Glob := G0.add 20 laws_big_g

theorem G1_ok : GlobOk Try.prog G1 := G0_ok.add ⟨Try.f20, Try.func20, by kernel_rfl, by kernel_rfl⟩ laws_big_c

/-! ### loop.example/g00327/spec.l01New -/

def spec_l01New_loops : Nat → Option LoopSpec
  | 6000001 => some ⟨[0, 3, 4], [], fun vals st k => onPats [.lst (.int .u8), .int .i64, .int .i64] [] vals st (fun p q => spec_l01New_j6000001 (p.1, p.2.1, p.2.2.1) (fun z => k .norm [.lst (.int .u8) z.1, .int .i64 z.2.1, .int .i64 z.2.2] []))
      (none)⟩
  | 0 => some ⟨[0, 3, 4], [], fun vals st k => onPats [.lst (.int .u8), .int .i64, .int .i64] [] vals st (fun p q => loopK spec_l01New_b0 Fuel (p.1, p.2.1, p.2.2.1) (fun z => k (.exit 0) [.lst (.int .u8) z.1, .int .i64 z.2.1, .int .i64 z.2.2] []))
      (none)⟩
  | _ => none

def spec_l01New_jv6000001 : ((List Int) × Int × Int) → List AV := (fun x => [.lst (.int .u8) x.1, .int .i64 x.2.1, .int .i64 x.2.2])
def spec_l01New_js6000001 : ((List Int) × Int × Int) → St := (fun x => [])
def spec_l01New_je6000001 : ((List Int) × Int × Int) → Out × List AV × St := (fun z => (.norm, [.lst (.int .u8) z.1, .int .i64 z.2.1, .int .i64 z.2.2], []))

theorem spec_l01New_jx6000001 (x : ((List Int) × Int × Int)) : exec G1 ⟨0, 32, spec_l01New_loops⟩ (loopBody Try.f78 6000001) (bodyK ⟨0, 32, spec_l01New_loops⟩ [0, 3, 4] []) (setEs (deads 32) [0, 3, 4] (spec_l01New_jv6000001 x)) (spec_l01New_js6000001 x) = spec_l01New_j6000001 x (fun z => some ⟨(spec_l01New_je6000001 z).1, (spec_l01New_je6000001 z).2.1, (spec_l01New_je6000001 z).2.2⟩) := by
  kernel_rfl

theorem spec_l01New_lo6000001 : ∀ sp, (spec_l01New_loops 6000001) = some sp → CutOk G1 ⟨0, 32, spec_l01New_loops⟩ sp (loopBody Try.f78 6000001) := by
  intro sp hsp vals st k r h
  cases hsp
  dsimp only at h
  rcases onPats_inv2 h with ⟨p, q, rfl, rfl, h⟩ | h
  · exact cut_runs spec_l01New_jp6000001 spec_l01New_jv6000001 spec_l01New_js6000001 spec_l01New_je6000001 spec_l01New_jx6000001 (p.1, p.2.1, p.2.2.1) _ k r (fun z => rfl) h
  cases h

def spec_l01New_v0 : ((List Int) × Int × Int) → List AV := (fun x => [.lst (.int .u8) x.1, .int .i64 x.2.1, .int .i64 x.2.2])
def spec_l01New_s0 : ((List Int) × Int × Int) → St := (fun x => [])
def spec_l01New_e0 : ((List Int) × Int × Int) → Out × List AV × St := (fun z => ((.exit 0), [.lst (.int .u8) z.1, .int .i64 z.2.1, .int .i64 z.2.2], []))

theorem spec_l01New_bx0 (x : ((List Int) × Int × Int)) : exec G1 ⟨0, 32, spec_l01New_loops⟩ (loopBody Try.f78 0) (bodyK ⟨0, 32, spec_l01New_loops⟩ [0, 3, 4] []) (setEs (deads 32) [0, 3, 4] (spec_l01New_v0 x)) (spec_l01New_s0 x) = spec_l01New_b0 x (Sum.elim (fun y => some ⟨.norm, spec_l01New_v0 y, spec_l01New_s0 y⟩) fun z => some ⟨(spec_l01New_e0 z).1, (spec_l01New_e0 z).2.1, (spec_l01New_e0 z).2.2⟩) := by
  kernel_rfl

theorem spec_l01New_lo0 : ∀ sp, (spec_l01New_loops 0) = some sp → LoopOk G1 ⟨0, 32, spec_l01New_loops⟩ sp (loopBody Try.f78 0) := by
  intro sp hsp vals st k r h
  cases hsp
  dsimp only at h
  rcases onPats_inv2 h with ⟨p, q, rfl, rfl, h⟩ | h
  · exact loop_runs2 spec_l01New_bp0 spec_l01New_v0 spec_l01New_s0 spec_l01New_e0 (fun z => by (intro h; cases h)) spec_l01New_bx0 Fuel (p.1, p.2.1, p.2.2.1) _ k r (fun z => rfl) h
  cases h

theorem spec_l01New_x (a0 : (List Int)) : execFn G1 spec_l01New_loops Try.f78 [.lst (.int .u8) a0] [] = spec_l01New_d a0 (fun (y : ((List Int) × Int × Int)) => some ⟨.ret, [.bp 0 0], [.box [.lst (.int .u8) y.1, .int .i64 y.2.1, .int .i64 y.2.2]]⟩) := by kernel_rfl

theorem spec_l01New_y (a0 : (List Int)) : execFn G1 spec_l01New_loops Try.f78 [.lst (.int .u8) a0] [] = spec_l01New_k a0 (fun (y : ((List Int) × Int × Int)) => some ⟨.ret, [.bp 0 0], [.box [.lst (.int .u8) y.1, .int .i64 y.2.1, .int .i64 y.2.2]]⟩) := (spec_l01New_x a0).trans (by rw [spec_l01New_e])

theorem spec_l01New_l : LoopsOk G1 ⟨0, 32, spec_l01New_loops⟩ (Try.f78.body.getD .skip) :=
  loopsOk_of (ids := [6000001, 0]) (by kernel_rfl) (by kernel_rfl) ⟨spec_l01New_lo6000001, ⟨spec_l01New_lo0, trivial⟩⟩

theorem spec_l01New_c : Contract Try.prog 78 spec_l01New_g := by
  refine told G1_ok follows Try.func78 (c := Try.f78.body.getD .skip) (by kernel_rfl) ?_
  intro args s k r hk
  unfold spec_l01New_g at hk
  rcases onPats_inv hk with ⟨p, q, rfl, rfl⟩ | hk
  · exact ⟨spec_l01New_loops, spec_l01New_q p.1, spec_l01New_y p.1, spec_l01New_l⟩
  cases hk

def G2 : Glob := G1.add 78 spec_l01New_g

theorem G2_ok : GlobOk Try.prog G2 := G1_ok.add ⟨Try.f78, Try.func78, by kernel_rfl, by kernel_rfl⟩ spec_l01New_c

/-! ### loop.example/g00327/spec.l01Byte -/

def spec_l01Byte_loops : Nat → Option LoopSpec
  | _ => none

theorem spec_l01Byte_x (a0 : (List Int)) (a1 : Int) (a2 : Int) : execFn G2 spec_l01Byte_loops Try.f99 [.bp 0 0] [.box [.lst (.int .u8) a0, .int .i64 a1, .int .i64 a2]] = spec_l01Byte_d a0 a1 a2 (fun (y : (Int × (List Int) × Int × Int)) => some ⟨.ret, [.int .i64 y.1], [.box [.lst (.int .u8) y.2.1, .int .i64 y.2.2.1, .int .i64 y.2.2.2]]⟩) := by kernel_rfl

theorem spec_l01Byte_y (a0 : (List Int)) (a1 : Int) (a2 : Int) : execFn G2 spec_l01Byte_loops Try.f99 [.bp 0 0] [.box [.lst (.int .u8) a0, .int .i64 a1, .int .i64 a2]] = spec_l01Byte_k a0 a1 a2 (fun (y : (Int × (List Int) × Int × Int)) => some ⟨.ret, [.int .i64 y.1], [.box [.lst (.int .u8) y.2.1, .int .i64 y.2.2.1, .int .i64 y.2.2.2]]⟩) := (spec_l01Byte_x a0 a1 a2).trans (by rw [spec_l01Byte_e])

theorem spec_l01Byte_l : LoopsOk G2 ⟨1, 58, spec_l01Byte_loops⟩ (Try.f99.body.getD .skip) :=
  loopsOk_of (ids := []) (by kernel_rfl) (by kernel_rfl) trivial

theorem spec_l01Byte_c : Contract Try.prog 99 spec_l01Byte_g := by
  refine told G2_ok follows Try.func99 (c := Try.f99.body.getD .skip) (by kernel_rfl) ?_
  intro args s k r hk
  unfold spec_l01Byte_g at hk
  rcases onPats_inv hk with ⟨p, q, rfl, rfl⟩ | hk
  · exact ⟨spec_l01Byte_loops, spec_l01Byte_q q.1.1 q.1.2.1 q.1.2.2.1, spec_l01Byte_y q.1.1 q.1.2.1 q.1.2.2.1, spec_l01Byte_l⟩
  cases hk

def G3 : Glob := G2.add 99 spec_l01Byte_g

theorem G3_ok : GlobOk Try.prog G3 := G2_ok.add ⟨Try.f99, Try.func99, by kernel_rfl, by kernel_rfl⟩ spec_l01Byte_c

/-! ### loop.example/g00327/spec.l01Below -/

def spec_l01Below_loops : Nat → Option LoopSpec
  | _ => none

theorem spec_l01Below_x (a0 : Int) (a1 : (List Int)) (a2 : Int) (a3 : Int) : execFn G3 spec_l01Below_loops Try.f100 [.bp 0 0, .int .i64 a0] [.box [.lst (.int .u8) a1, .int .i64 a2, .int .i64 a3]] = spec_l01Below_d a0 a1 a2 a3 (fun (y : (Int × (List Int) × Int × Int)) => some ⟨.ret, [.int .i64 y.1], [.box [.lst (.int .u8) y.2.1, .int .i64 y.2.2.1, .int .i64 y.2.2.2]]⟩) := by kernel_rfl

theorem spec_l01Below_y (a0 : Int) (a1 : (List Int)) (a2 : Int) (a3 : Int) : execFn G3 spec_l01Below_loops Try.f100 [.bp 0 0, .int .i64 a0] [.box [.lst (.int .u8) a1, .int .i64 a2, .int .i64 a3]] = spec_l01Below_k a0 a1 a2 a3 (fun (y : (Int × (List Int) × Int × Int)) => some ⟨.ret, [.int .i64 y.1], [.box [.lst (.int .u8) y.2.1, .int .i64 y.2.2.1, .int .i64 y.2.2.2]]⟩) := (spec_l01Below_x a0 a1 a2 a3).trans (by rw [spec_l01Below_e])

theorem spec_l01Below_l : LoopsOk G3 ⟨1, 37, spec_l01Below_loops⟩ (Try.f100.body.getD .skip) :=
  loopsOk_of (ids := []) (by kernel_rfl) (by kernel_rfl) trivial

theorem spec_l01Below_c : Contract Try.prog 100 spec_l01Below_g := by
  refine told G3_ok follows Try.func100 (c := Try.f100.body.getD .skip) (by kernel_rfl) ?_
  intro args s k r hk
  unfold spec_l01Below_g at hk
  rcases onPats_inv hk with ⟨p, q, rfl, rfl⟩ | hk
  · exact ⟨spec_l01Below_loops, spec_l01Below_q p.2.1 q.1.1 q.1.2.1 q.1.2.2.1, spec_l01Below_y p.2.1 q.1.1 q.1.2.1 q.1.2.2.1, spec_l01Below_l⟩
  cases hk

def G4 : Glob := G3.add 100 spec_l01Below_g

theorem G4_ok : GlobOk Try.prog G4 := G3_ok.add ⟨Try.f100, Try.func100, by kernel_rfl, by kernel_rfl⟩ spec_l01Below_c

/-! ### loop.example/g00327/spec.l01Pick -/

def spec_l01Pick_loops : Nat → Option LoopSpec
  | _ => none

theorem spec_l01Pick_x (a0 : (List ByteArray)) (a1 : (List Int)) (a2 : Int) (a3 : Int) : execFn G4 spec_l01Pick_loops Try.f157 [.bp 0 0, .lst .str a0] [.box [.lst (.int .u8) a1, .int .i64 a2, .int .i64 a3]] = spec_l01Pick_d a0 a1 a2 a3 (fun (y : (ByteArray × (List Int) × Int × Int)) => some ⟨.ret, [.str y.1], [.box [.lst (.int .u8) y.2.1, .int .i64 y.2.2.1, .int .i64 y.2.2.2]]⟩) := by kernel_rfl

theorem spec_l01Pick_y (a0 : (List ByteArray)) (a1 : (List Int)) (a2 : Int) (a3 : Int) : execFn G4 spec_l01Pick_loops Try.f157 [.bp 0 0, .lst .str a0] [.box [.lst (.int .u8) a1, .int .i64 a2, .int .i64 a3]] = spec_l01Pick_k a0 a1 a2 a3 (fun (y : (ByteArray × (List Int) × Int × Int)) => some ⟨.ret, [.str y.1], [.box [.lst (.int .u8) y.2.1, .int .i64 y.2.2.1, .int .i64 y.2.2.2]]⟩) := (spec_l01Pick_x a0 a1 a2 a3).trans (by rw [spec_l01Pick_e])

theorem spec_l01Pick_l : LoopsOk G4 ⟨1, 12, spec_l01Pick_loops⟩ (Try.f157.body.getD .skip) :=
  loopsOk_of (ids := []) (by kernel_rfl) (by kernel_rfl) trivial

theorem spec_l01Pick_c : Contract Try.prog 157 spec_l01Pick_g := by
  refine told G4_ok follows Try.func157 (c := Try.f157.body.getD .skip) (by kernel_rfl) ?_
  intro args s k r hk
  unfold spec_l01Pick_g at hk
  rcases onPats_inv hk with ⟨p, q, rfl, rfl⟩ | hk
  · exact ⟨spec_l01Pick_loops, spec_l01Pick_q p.2.1 q.1.1 q.1.2.1 q.1.2.2.1, spec_l01Pick_y p.2.1 q.1.1 q.1.2.1 q.1.2.2.1, spec_l01Pick_l⟩
  cases hk

def G5 : Glob := G4.add 157 spec_l01Pick_g

theorem G5_ok : GlobOk Try.prog G5 := G4_ok.add ⟨Try.f157, Try.func157, by kernel_rfl, by kernel_rfl⟩ spec_l01Pick_c

/-! ### loop.example/g00327/spec.l05Key -/

def spec_l05Key_loops : Nat → Option LoopSpec
  | _ => none

theorem spec_l05Key_x (a0 : (List Int)) (a1 : Int) (a2 : Int) : execFn G5 spec_l05Key_loops Try.f136 [.bp 0 0] [.box [.lst (.int .u8) a0, .int .i64 a1, .int .i64 a2]] = spec_l05Key_d a0 a1 a2 (fun (y : (ByteArray × (List Int) × Int × Int)) => some ⟨.ret, [.str y.1], [.box [.lst (.int .u8) y.2.1, .int .i64 y.2.2.1, .int .i64 y.2.2.2]]⟩) := by kernel_rfl

theorem spec_l05Key_y (a0 : (List Int)) (a1 : Int) (a2 : Int) : execFn G5 spec_l05Key_loops Try.f136 [.bp 0 0] [.box [.lst (.int .u8) a0, .int .i64 a1, .int .i64 a2]] = spec_l05Key_k a0 a1 a2 (fun (y : (ByteArray × (List Int) × Int × Int)) => some ⟨.ret, [.str y.1], [.box [.lst (.int .u8) y.2.1, .int .i64 y.2.2.1, .int .i64 y.2.2.2]]⟩) := (spec_l05Key_x a0 a1 a2).trans (by rw [spec_l05Key_e])

theorem spec_l05Key_l : LoopsOk G5 ⟨1, 6, spec_l05Key_loops⟩ (Try.f136.body.getD .skip) :=
  loopsOk_of (ids := []) (by kernel_rfl) (by kernel_rfl) trivial

theorem spec_l05Key_c : Contract Try.prog 136 spec_l05Key_g := by
  refine told G5_ok follows Try.func136 (c := Try.f136.body.getD .skip) (by kernel_rfl) ?_
  intro args s k r hk
  unfold spec_l05Key_g at hk
  rcases onPats_inv hk with ⟨p, q, rfl, rfl⟩ | hk
  · exact ⟨spec_l05Key_loops, spec_l05Key_q q.1.1 q.1.2.1 q.1.2.2.1, spec_l05Key_y q.1.1 q.1.2.1 q.1.2.2.1, spec_l05Key_l⟩
  cases hk

def G6 : Glob := G5.add 136 spec_l05Key_g

theorem G6_ok : GlobOk Try.prog G6 := G5_ok.add ⟨Try.f136, Try.func136, by kernel_rfl, by kernel_rfl⟩ spec_l05Key_c

/-! ### loop.example/g00327/spec.l01Once -/

def spec_l01Once_loops : Nat → Option LoopSpec
  | _ => none

theorem spec_l01Once_x (a0 : Int) (a1 : (List Int)) (a2 : Int) (a3 : Int) : execFn G6 spec_l01Once_loops Try.f107 [.bp 0 0, .int .i64 a0] [.box [.lst (.int .u8) a1, .int .i64 a2, .int .i64 a3]] = spec_l01Once_d a0 a1 a2 a3 (fun (y : (Bool × (List Int) × Int × Int)) => some ⟨.ret, [.bool y.1], [.box [.lst (.int .u8) y.2.1, .int .i64 y.2.2.1, .int .i64 y.2.2.2]]⟩) := by kernel_rfl

theorem spec_l01Once_y (a0 : Int) (a1 : (List Int)) (a2 : Int) (a3 : Int) : execFn G6 spec_l01Once_loops Try.f107 [.bp 0 0, .int .i64 a0] [.box [.lst (.int .u8) a1, .int .i64 a2, .int .i64 a3]] = spec_l01Once_k a0 a1 a2 a3 (fun (y : (Bool × (List Int) × Int × Int)) => some ⟨.ret, [.bool y.1], [.box [.lst (.int .u8) y.2.1, .int .i64 y.2.2.1, .int .i64 y.2.2.2]]⟩) := (spec_l01Once_x a0 a1 a2 a3).trans (by rw [spec_l01Once_e])

theorem spec_l01Once_l : LoopsOk G6 ⟨1, 9, spec_l01Once_loops⟩ (Try.f107.body.getD .skip) :=
  loopsOk_of (ids := []) (by kernel_rfl) (by kernel_rfl) trivial

theorem spec_l01Once_c : Contract Try.prog 107 spec_l01Once_g := by
  refine told G6_ok follows Try.func107 (c := Try.f107.body.getD .skip) (by kernel_rfl) ?_
  intro args s k r hk
  unfold spec_l01Once_g at hk
  rcases onPats_inv hk with ⟨p, q, rfl, rfl⟩ | hk
  · exact ⟨spec_l01Once_loops, spec_l01Once_q p.2.1 q.1.1 q.1.2.1 q.1.2.2.1, spec_l01Once_y p.2.1 q.1.1 q.1.2.1 q.1.2.2.1, spec_l01Once_l⟩
  cases hk

def G7 : Glob := G6.add 107 spec_l01Once_g

theorem G7_ok : GlobOk Try.prog G7 := G6_ok.add ⟨Try.f107, Try.func107, by kernel_rfl, by kernel_rfl⟩ spec_l01Once_c

/-! ### loop.example/g00327/spec.l05Range -/

def spec_l05Range_loops : Nat → Option LoopSpec
  | _ => none

theorem spec_l05Range_x (a0 : (List Int)) (a1 : Int) (a2 : Int) : execFn G7 spec_l05Range_loops Try.f108 [.bp 0 0] [.box [.lst (.int .u8) a0, .int .i64 a1, .int .i64 a2]] = spec_l05Range_d a0 a1 a2 (fun (y : (ByteArray × ByteArray × (List Int) × Int × Int)) => some ⟨.ret, [.agg [.str y.1, .str y.2.1]], [.box [.lst (.int .u8) y.2.2.1, .int .i64 y.2.2.2.1, .int .i64 y.2.2.2.2]]⟩) := by kernel_rfl

theorem spec_l05Range_y (a0 : (List Int)) (a1 : Int) (a2 : Int) : execFn G7 spec_l05Range_loops Try.f108 [.bp 0 0] [.box [.lst (.int .u8) a0, .int .i64 a1, .int .i64 a2]] = spec_l05Range_k a0 a1 a2 (fun (y : (ByteArray × ByteArray × (List Int) × Int × Int)) => some ⟨.ret, [.agg [.str y.1, .str y.2.1]], [.box [.lst (.int .u8) y.2.2.1, .int .i64 y.2.2.2.1, .int .i64 y.2.2.2.2]]⟩) := (spec_l05Range_x a0 a1 a2).trans (by rw [spec_l05Range_e])

theorem spec_l05Range_l : LoopsOk G7 ⟨1, 23, spec_l05Range_loops⟩ (Try.f108.body.getD .skip) :=
  loopsOk_of (ids := []) (by kernel_rfl) (by kernel_rfl) trivial

theorem spec_l05Range_c : Contract Try.prog 108 spec_l05Range_g := by
  refine told G7_ok follows Try.func108 (c := Try.f108.body.getD .skip) (by kernel_rfl) ?_
  intro args s k r hk
  unfold spec_l05Range_g at hk
  rcases onPats_inv hk with ⟨p, q, rfl, rfl⟩ | hk
  · exact ⟨spec_l05Range_loops, spec_l05Range_q q.1.1 q.1.2.1 q.1.2.2.1, spec_l05Range_y q.1.1 q.1.2.1 q.1.2.2.1, spec_l05Range_l⟩
  cases hk

def G8 : Glob := G7.add 108 spec_l05Range_g

theorem G8_ok : GlobOk Try.prog G8 := G7_ok.add ⟨Try.f108, Try.func108, by kernel_rfl, by kernel_rfl⟩ spec_l05Range_c

/-! ### loop.example/g00327/spec.l05Ranges -/

def spec_l05Ranges_loops : Nat → Option LoopSpec
  | 0 => some ⟨[0, 3, 4], [], fun vals st k => onPats [.bp 0 0, .own 1, .int .i64] [.box [.lst (.int .u8), .int .i64, .int .i64], .arr tRange] vals st (fun p q => loopK spec_l05Ranges_b0 Fuel (p.2.2.1, q.1.1, q.1.2.1, q.1.2.2.1, q.2.1) (fun z => k (.exit 0) [.bp 0 0, .own 1, .int .i64 z.1] [.box [.lst (.int .u8) z.2.1, .int .i64 z.2.2.1, .int .i64 z.2.2.2.1], .arr tRange z.2.2.2.2]))
      (none)⟩
  | _ => none

def spec_l05Ranges_v0 : (Int × (List Int) × Int × Int × (List dRange)) → List AV := (fun x => [.bp 0 0, .own 1, .int .i64 x.1])
def spec_l05Ranges_s0 : (Int × (List Int) × Int × Int × (List dRange)) → St := (fun x => [.box [.lst (.int .u8) x.2.1, .int .i64 x.2.2.1, .int .i64 x.2.2.2.1], .arr tRange x.2.2.2.2])
def spec_l05Ranges_e0 : (Int × (List Int) × Int × Int × (List dRange)) → Out × List AV × St := (fun z => ((.exit 0), [.bp 0 0, .own 1, .int .i64 z.1], [.box [.lst (.int .u8) z.2.1, .int .i64 z.2.2.1, .int .i64 z.2.2.2.1], .arr tRange z.2.2.2.2]))

theorem spec_l05Ranges_bx0 (x : (Int × (List Int) × Int × Int × (List dRange))) : exec G8 ⟨1, 18, spec_l05Ranges_loops⟩ (loopBody Try.f134 0) (bodyK ⟨1, 18, spec_l05Ranges_loops⟩ [0, 3, 4] []) (setEs (deads 18) [0, 3, 4] (spec_l05Ranges_v0 x)) (spec_l05Ranges_s0 x) = spec_l05Ranges_b0 x (Sum.elim (fun y => some ⟨.norm, spec_l05Ranges_v0 y, spec_l05Ranges_s0 y⟩) fun z => some ⟨(spec_l05Ranges_e0 z).1, (spec_l05Ranges_e0 z).2.1, (spec_l05Ranges_e0 z).2.2⟩) := by
  kernel_rfl

theorem spec_l05Ranges_lo0 : ∀ sp, (spec_l05Ranges_loops 0) = some sp → LoopOk G8 ⟨1, 18, spec_l05Ranges_loops⟩ sp (loopBody Try.f134 0) := by
  intro sp hsp vals st k r h
  cases hsp
  dsimp only at h
  rcases onPats_inv2 h with ⟨p, q, rfl, rfl, h⟩ | h
  · exact loop_runs2 spec_l05Ranges_bp0 spec_l05Ranges_v0 spec_l05Ranges_s0 spec_l05Ranges_e0 (fun z => by (intro h; cases h)) spec_l05Ranges_bx0 Fuel (p.2.2.1, q.1.1, q.1.2.1, q.1.2.2.1, q.2.1) _ k r (fun z => rfl) h
  cases h

theorem spec_l05Ranges_x (a0 : (List Int)) (a1 : Int) (a2 : Int) : execFn G8 spec_l05Ranges_loops Try.f134 [.bp 0 0] [.box [.lst (.int .u8) a0, .int .i64 a1, .int .i64 a2]] = spec_l05Ranges_d a0 a1 a2 (fun (y : ((List Int) × Int × Int × (List dRange))) => some ⟨.ret, [.own 1], [.box [.lst (.int .u8) y.1, .int .i64 y.2.1, .int .i64 y.2.2.1], .arr tRange y.2.2.2]⟩) := by kernel_rfl

theorem spec_l05Ranges_y (a0 : (List Int)) (a1 : Int) (a2 : Int) : execFn G8 spec_l05Ranges_loops Try.f134 [.bp 0 0] [.box [.lst (.int .u8) a0, .int .i64 a1, .int .i64 a2]] = spec_l05Ranges_k a0 a1 a2 (fun (y : ((List Int) × Int × Int × (List dRange))) => some ⟨.ret, [.own 1], [.box [.lst (.int .u8) y.1, .int .i64 y.2.1, .int .i64 y.2.2.1], .arr tRange y.2.2.2]⟩) := (spec_l05Ranges_x a0 a1 a2).trans (by rw [spec_l05Ranges_e])

theorem spec_l05Ranges_l : LoopsOk G8 ⟨1, 18, spec_l05Ranges_loops⟩ (Try.f134.body.getD .skip) :=
  loopsOk_of (ids := [0]) (by kernel_rfl) (by kernel_rfl) ⟨spec_l05Ranges_lo0, trivial⟩

theorem spec_l05Ranges_c : Contract Try.prog 134 spec_l05Ranges_g := by
  refine told G8_ok follows Try.func134 (c := Try.f134.body.getD .skip) (by kernel_rfl) ?_
  intro args s k r hk
  unfold spec_l05Ranges_g at hk
  rcases onPats_inv hk with ⟨p, q, rfl, rfl⟩ | hk
  · exact ⟨spec_l05Ranges_loops, spec_l05Ranges_q q.1.1 q.1.2.1 q.1.2.2.1, spec_l05Ranges_y q.1.1 q.1.2.1 q.1.2.2.1, spec_l05Ranges_l⟩
  cases hk

def G9 : Glob := G8.add 134 spec_l05Ranges_g

theorem G9_ok : GlobOk Try.prog G9 := G8_ok.add ⟨Try.f134, Try.func134, by kernel_rfl, by kernel_rfl⟩ spec_l05Ranges_c

/-! ### loop.example/g00327/spec.l05Write -/

def spec_l05Write_loops : Nat → Option LoopSpec
  | _ => none

theorem spec_l05Write_x (a0 : (List Int)) (a1 : Int) (a2 : Int) : execFn G9 spec_l05Write_loops Try.f156 [.bp 0 0] [.box [.lst (.int .u8) a0, .int .i64 a1, .int .i64 a2]] = spec_l05Write_d a0 a1 a2 (fun (y : (ByteArray × ByteArray × Bool × (List Int) × Int × Int)) => some ⟨.ret, [.agg [.str y.1, .str y.2.1, .bool y.2.2.1]], [.box [.lst (.int .u8) y.2.2.2.1, .int .i64 y.2.2.2.2.1, .int .i64 y.2.2.2.2.2]]⟩) := by kernel_rfl

theorem spec_l05Write_y (a0 : (List Int)) (a1 : Int) (a2 : Int) : execFn G9 spec_l05Write_loops Try.f156 [.bp 0 0] [.box [.lst (.int .u8) a0, .int .i64 a1, .int .i64 a2]] = spec_l05Write_k a0 a1 a2 (fun (y : (ByteArray × ByteArray × Bool × (List Int) × Int × Int)) => some ⟨.ret, [.agg [.str y.1, .str y.2.1, .bool y.2.2.1]], [.box [.lst (.int .u8) y.2.2.2.1, .int .i64 y.2.2.2.2.1, .int .i64 y.2.2.2.2.2]]⟩) := (spec_l05Write_x a0 a1 a2).trans (by rw [spec_l05Write_e])

theorem spec_l05Write_l : LoopsOk G9 ⟨1, 15, spec_l05Write_loops⟩ (Try.f156.body.getD .skip) :=
  loopsOk_of (ids := []) (by kernel_rfl) (by kernel_rfl) trivial

theorem spec_l05Write_c : Contract Try.prog 156 spec_l05Write_g := by
  refine told G9_ok follows Try.func156 (c := Try.f156.body.getD .skip) (by kernel_rfl) ?_
  intro args s k r hk
  unfold spec_l05Write_g at hk
  rcases onPats_inv hk with ⟨p, q, rfl, rfl⟩ | hk
  · exact ⟨spec_l05Write_loops, spec_l05Write_q q.1.1 q.1.2.1 q.1.2.2.1, spec_l05Write_y q.1.1 q.1.2.1 q.1.2.2.1, spec_l05Write_l⟩
  cases hk

def G10 : Glob := G9.add 156 spec_l05Write_g

theorem G10_ok : GlobOk Try.prog G10 := G9_ok.add ⟨Try.f156, Try.func156, by kernel_rfl, by kernel_rfl⟩ spec_l05Write_c

/-! ### loop.example/g00327/spec.PutWrite -/

def spec_PutWrite_loops : Nat → Option LoopSpec
  | 0 => some ⟨[0, 3, 5, 6], [], fun vals st k => onPats [.lst tWrite, .bp 0 0, .own 1, .int .i64] [.box [.str, .str, .bool], .arr tWrite] vals st (fun p q => loopK spec_PutWrite_b0 Fuel (p.1, p.2.2.2.1, q.1.1, q.1.2.1, q.1.2.2.1, q.2.1) (fun z => k (.exit 0) [.lst tWrite z.1, .bp 0 0, .own 1, .int .i64 z.2.1] [.box [.str z.2.2.1, .str z.2.2.2.1, .bool z.2.2.2.2.1], .arr tWrite z.2.2.2.2.2]))
      (none)⟩
  | 2 => some ⟨[0, 3, 5, 7], [], fun vals st k => onPats [.lst tWrite, .bp 0 0, .own 1, .int .i64] [.box [.str, .str, .bool], .arr tWrite] vals st (fun p q => loopK spec_PutWrite_b2 Fuel (p.1, p.2.2.2.1, q.1.1, q.1.2.1, q.1.2.2.1, q.2.1) (fun z => k (.exit 2) [.lst tWrite z.1, .bp 0 0, .own 1, .int .i64 z.2.1] [.box [.str z.2.2.1, .str z.2.2.2.1, .bool z.2.2.2.2.1], .arr tWrite z.2.2.2.2.2]))
      (none)⟩
  | _ => none

def spec_PutWrite_v0 : ((List dWrite) × Int × ByteArray × ByteArray × Bool × (List dWrite)) → List AV := (fun x => [.lst tWrite x.1, .bp 0 0, .own 1, .int .i64 x.2.1])
def spec_PutWrite_s0 : ((List dWrite) × Int × ByteArray × ByteArray × Bool × (List dWrite)) → St := (fun x => [.box [.str x.2.2.1, .str x.2.2.2.1, .bool x.2.2.2.2.1], .arr tWrite x.2.2.2.2.2])
def spec_PutWrite_e0 : ((List dWrite) × Int × ByteArray × ByteArray × Bool × (List dWrite)) → Out × List AV × St := (fun z => ((.exit 0), [.lst tWrite z.1, .bp 0 0, .own 1, .int .i64 z.2.1], [.box [.str z.2.2.1, .str z.2.2.2.1, .bool z.2.2.2.2.1], .arr tWrite z.2.2.2.2.2]))

theorem spec_PutWrite_bx0 (x : ((List dWrite) × Int × ByteArray × ByteArray × Bool × (List dWrite))) : exec G10 ⟨0, 56, spec_PutWrite_loops⟩ (loopBody Try.f155 0) (bodyK ⟨0, 56, spec_PutWrite_loops⟩ [0, 3, 5, 6] []) (setEs (deads 56) [0, 3, 5, 6] (spec_PutWrite_v0 x)) (spec_PutWrite_s0 x) = spec_PutWrite_b0 x (Sum.elim (fun y => some ⟨.norm, spec_PutWrite_v0 y, spec_PutWrite_s0 y⟩) fun z => some ⟨(spec_PutWrite_e0 z).1, (spec_PutWrite_e0 z).2.1, (spec_PutWrite_e0 z).2.2⟩) := by
  kernel_rfl

theorem spec_PutWrite_lo0 : ∀ sp, (spec_PutWrite_loops 0) = some sp → LoopOk G10 ⟨0, 56, spec_PutWrite_loops⟩ sp (loopBody Try.f155 0) := by
  intro sp hsp vals st k r h
  cases hsp
  dsimp only at h
  rcases onPats_inv2 h with ⟨p, q, rfl, rfl, h⟩ | h
  · exact loop_runs2 spec_PutWrite_bp0 spec_PutWrite_v0 spec_PutWrite_s0 spec_PutWrite_e0 (fun z => by (intro h; cases h)) spec_PutWrite_bx0 Fuel (p.1, p.2.2.2.1, q.1.1, q.1.2.1, q.1.2.2.1, q.2.1) _ k r (fun z => rfl) h
  cases h

def spec_PutWrite_v2 : ((List dWrite) × Int × ByteArray × ByteArray × Bool × (List dWrite)) → List AV := (fun x => [.lst tWrite x.1, .bp 0 0, .own 1, .int .i64 x.2.1])
def spec_PutWrite_s2 : ((List dWrite) × Int × ByteArray × ByteArray × Bool × (List dWrite)) → St := (fun x => [.box [.str x.2.2.1, .str x.2.2.2.1, .bool x.2.2.2.2.1], .arr tWrite x.2.2.2.2.2])
def spec_PutWrite_e2 : ((List dWrite) × Int × ByteArray × ByteArray × Bool × (List dWrite)) → Out × List AV × St := (fun z => ((.exit 2), [.lst tWrite z.1, .bp 0 0, .own 1, .int .i64 z.2.1], [.box [.str z.2.2.1, .str z.2.2.2.1, .bool z.2.2.2.2.1], .arr tWrite z.2.2.2.2.2]))

theorem spec_PutWrite_bx2 (x : ((List dWrite) × Int × ByteArray × ByteArray × Bool × (List dWrite))) : exec G10 ⟨0, 56, spec_PutWrite_loops⟩ (loopBody Try.f155 2) (bodyK ⟨0, 56, spec_PutWrite_loops⟩ [0, 3, 5, 7] []) (setEs (deads 56) [0, 3, 5, 7] (spec_PutWrite_v2 x)) (spec_PutWrite_s2 x) = spec_PutWrite_b2 x (Sum.elim (fun y => some ⟨.norm, spec_PutWrite_v2 y, spec_PutWrite_s2 y⟩) fun z => some ⟨(spec_PutWrite_e2 z).1, (spec_PutWrite_e2 z).2.1, (spec_PutWrite_e2 z).2.2⟩) := by
  kernel_rfl

theorem spec_PutWrite_lo2 : ∀ sp, (spec_PutWrite_loops 2) = some sp → LoopOk G10 ⟨0, 56, spec_PutWrite_loops⟩ sp (loopBody Try.f155 2) := by
  intro sp hsp vals st k r h
  cases hsp
  dsimp only at h
  rcases onPats_inv2 h with ⟨p, q, rfl, rfl, h⟩ | h
  · exact loop_runs2 spec_PutWrite_bp2 spec_PutWrite_v2 spec_PutWrite_s2 spec_PutWrite_e2 (fun z => by (intro h; cases h)) spec_PutWrite_bx2 Fuel (p.1, p.2.2.2.1, q.1.1, q.1.2.1, q.1.2.2.1, q.2.1) _ k r (fun z => rfl) h
  cases h

theorem spec_PutWrite_x (a0 : (List dWrite)) (a1 : ByteArray) (a2 : ByteArray) (a3 : Bool) : execFn G10 spec_PutWrite_loops Try.f155 [.lst tWrite a0, .agg [.str a1, .str a2, .bool a3]] [] = spec_PutWrite_d a0 (a1, (a2, a3)) (fun (y : (List dWrite)) => some ⟨.ret, [.own 0], [.arr tWrite y]⟩) := by kernel_rfl

theorem spec_PutWrite_y (a0 : (List dWrite)) (a1 : ByteArray) (a2 : ByteArray) (a3 : Bool) : execFn G10 spec_PutWrite_loops Try.f155 [.lst tWrite a0, .agg [.str a1, .str a2, .bool a3]] [] = spec_PutWrite_k a0 (a1, (a2, a3)) (fun (y : (List dWrite)) => some ⟨.ret, [.own 0], [.arr tWrite y]⟩) := (spec_PutWrite_x a0 a1 a2 a3).trans (by rw [spec_PutWrite_e])

theorem spec_PutWrite_l : LoopsOk G10 ⟨0, 56, spec_PutWrite_loops⟩ (Try.f155.body.getD .skip) :=
  loopsOk_of (ids := [0, 2]) (by kernel_rfl) (by kernel_rfl) ⟨spec_PutWrite_lo0, ⟨spec_PutWrite_lo2, trivial⟩⟩

theorem spec_PutWrite_c : Contract Try.prog 155 spec_PutWrite_g := by
  refine told G10_ok follows Try.func155 (c := Try.f155.body.getD .skip) (by kernel_rfl) ?_
  intro args s k r hk
  unfold spec_PutWrite_g at hk
  rcases onPats_inv hk with ⟨p, q, rfl, rfl⟩ | hk
  · exact ⟨spec_PutWrite_loops, spec_PutWrite_q p.1 p.2.1.1 p.2.1.2.1 p.2.1.2.2.1, spec_PutWrite_y p.1 p.2.1.1 p.2.1.2.1 p.2.1.2.2.1, spec_PutWrite_l⟩
  cases hk

def G11 : Glob := G10.add 155 spec_PutWrite_g

theorem G11_ok : GlobOk Try.prog G11 := G10_ok.add ⟨Try.f155, Try.func155, by kernel_rfl, by kernel_rfl⟩ spec_PutWrite_c

/-! ### loop.example/g00327/spec.l05Writes -/

def spec_l05Writes_loops : Nat → Option LoopSpec
  | 0 => some ⟨[0, 3, 4], [], fun vals st k => onPats [.bp 0 0, .own 1, .int .i64] [.box [.lst (.int .u8), .int .i64, .int .i64], .arr tWrite] vals st (fun p q => loopK spec_l05Writes_b0 Fuel (p.2.2.1, q.1.1, q.1.2.1, q.1.2.2.1, q.2.1) (fun z => k (.exit 0) [.bp 0 0, .own 1, .int .i64 z.1] [.box [.lst (.int .u8) z.2.1, .int .i64 z.2.2.1, .int .i64 z.2.2.2.1], .arr tWrite z.2.2.2.2]))
      (none)⟩
  | _ => none

def spec_l05Writes_v0 : (Int × (List Int) × Int × Int × (List dWrite)) → List AV := (fun x => [.bp 0 0, .own 1, .int .i64 x.1])
def spec_l05Writes_s0 : (Int × (List Int) × Int × Int × (List dWrite)) → St := (fun x => [.box [.lst (.int .u8) x.2.1, .int .i64 x.2.2.1, .int .i64 x.2.2.2.1], .arr tWrite x.2.2.2.2])
def spec_l05Writes_e0 : (Int × (List Int) × Int × Int × (List dWrite)) → Out × List AV × St := (fun z => ((.exit 0), [.bp 0 0, .own 1, .int .i64 z.1], [.box [.lst (.int .u8) z.2.1, .int .i64 z.2.2.1, .int .i64 z.2.2.2.1], .arr tWrite z.2.2.2.2]))

theorem spec_l05Writes_bx0 (x : (Int × (List Int) × Int × Int × (List dWrite))) : exec G11 ⟨1, 17, spec_l05Writes_loops⟩ (loopBody Try.f135 0) (bodyK ⟨1, 17, spec_l05Writes_loops⟩ [0, 3, 4] []) (setEs (deads 17) [0, 3, 4] (spec_l05Writes_v0 x)) (spec_l05Writes_s0 x) = spec_l05Writes_b0 x (Sum.elim (fun y => some ⟨.norm, spec_l05Writes_v0 y, spec_l05Writes_s0 y⟩) fun z => some ⟨(spec_l05Writes_e0 z).1, (spec_l05Writes_e0 z).2.1, (spec_l05Writes_e0 z).2.2⟩) := by
  kernel_rfl

theorem spec_l05Writes_lo0 : ∀ sp, (spec_l05Writes_loops 0) = some sp → LoopOk G11 ⟨1, 17, spec_l05Writes_loops⟩ sp (loopBody Try.f135 0) := by
  intro sp hsp vals st k r h
  cases hsp
  dsimp only at h
  rcases onPats_inv2 h with ⟨p, q, rfl, rfl, h⟩ | h
  · exact loop_runs2 spec_l05Writes_bp0 spec_l05Writes_v0 spec_l05Writes_s0 spec_l05Writes_e0 (fun z => by (intro h; cases h)) spec_l05Writes_bx0 Fuel (p.2.2.1, q.1.1, q.1.2.1, q.1.2.2.1, q.2.1) _ k r (fun z => rfl) h
  cases h

theorem spec_l05Writes_x (a0 : (List Int)) (a1 : Int) (a2 : Int) : execFn G11 spec_l05Writes_loops Try.f135 [.bp 0 0] [.box [.lst (.int .u8) a0, .int .i64 a1, .int .i64 a2]] = spec_l05Writes_d a0 a1 a2 (fun (y : ((List Int) × Int × Int × (List dWrite))) => some ⟨.ret, [.own 1], [.box [.lst (.int .u8) y.1, .int .i64 y.2.1, .int .i64 y.2.2.1], .arr tWrite y.2.2.2]⟩) := by kernel_rfl

theorem spec_l05Writes_y (a0 : (List Int)) (a1 : Int) (a2 : Int) : execFn G11 spec_l05Writes_loops Try.f135 [.bp 0 0] [.box [.lst (.int .u8) a0, .int .i64 a1, .int .i64 a2]] = spec_l05Writes_k a0 a1 a2 (fun (y : ((List Int) × Int × Int × (List dWrite))) => some ⟨.ret, [.own 1], [.box [.lst (.int .u8) y.1, .int .i64 y.2.1, .int .i64 y.2.2.1], .arr tWrite y.2.2.2]⟩) := (spec_l05Writes_x a0 a1 a2).trans (by rw [spec_l05Writes_e])

theorem spec_l05Writes_l : LoopsOk G11 ⟨1, 17, spec_l05Writes_loops⟩ (Try.f135.body.getD .skip) :=
  loopsOk_of (ids := [0]) (by kernel_rfl) (by kernel_rfl) ⟨spec_l05Writes_lo0, trivial⟩

theorem spec_l05Writes_c : Contract Try.prog 135 spec_l05Writes_g := by
  refine told G11_ok follows Try.func135 (c := Try.f135.body.getD .skip) (by kernel_rfl) ?_
  intro args s k r hk
  unfold spec_l05Writes_g at hk
  rcases onPats_inv hk with ⟨p, q, rfl, rfl⟩ | hk
  · exact ⟨spec_l05Writes_loops, spec_l05Writes_q q.1.1 q.1.2.1 q.1.2.2.1, spec_l05Writes_y q.1.1 q.1.2.1 q.1.2.2.1, spec_l05Writes_l⟩
  cases hk

def G12 : Glob := G11.add 135 spec_l05Writes_g

theorem G12_ok : GlobOk Try.prog G12 := G11_ok.add ⟨Try.f135, Try.func135, by kernel_rfl, by kernel_rfl⟩ spec_l05Writes_c

/-! ### loop.example/g00327/spec.l07Txn -/

def spec_l07Txn_loops : Nat → Option LoopSpec
  | 1000011 => some ⟨[0], [], fun _ _ _ => none⟩
  | _ => none

theorem spec_l07Txn_x (a0 : (List Int)) (a1 : Int) (a2 : Int) : execFn G12 spec_l07Txn_loops Try.f79 [.bp 0 0] [.box [.lst (.int .u8) a0, .int .i64 a1, .int .i64 a2]] = spec_l07Txn_d a0 a1 a2 (fun (y : (Int × Int × Int × Int × Bool × ByteArray × (List Int) × Int × Int × (List dRange) × (List dWrite))) => some ⟨.ret, [.agg [.int .i64 y.1, .int .i64 y.2.1, .int .i64 y.2.2.1, .int .i64 y.2.2.2.1, .own 1, .own 2, .bool y.2.2.2.2.1, .str y.2.2.2.2.2.1]], [.box [.lst (.int .u8) y.2.2.2.2.2.2.1, .int .i64 y.2.2.2.2.2.2.2.1, .int .i64 y.2.2.2.2.2.2.2.2.1], .arr tRange y.2.2.2.2.2.2.2.2.2.1, .arr tWrite y.2.2.2.2.2.2.2.2.2.2]⟩) := by kernel_rfl

theorem spec_l07Txn_y (a0 : (List Int)) (a1 : Int) (a2 : Int) : execFn G12 spec_l07Txn_loops Try.f79 [.bp 0 0] [.box [.lst (.int .u8) a0, .int .i64 a1, .int .i64 a2]] = spec_l07Txn_k a0 a1 a2 (fun (y : (Int × Int × Int × Int × Bool × ByteArray × (List Int) × Int × Int × (List dRange) × (List dWrite))) => some ⟨.ret, [.agg [.int .i64 y.1, .int .i64 y.2.1, .int .i64 y.2.2.1, .int .i64 y.2.2.2.1, .own 1, .own 2, .bool y.2.2.2.2.1, .str y.2.2.2.2.2.1]], [.box [.lst (.int .u8) y.2.2.2.2.2.2.1, .int .i64 y.2.2.2.2.2.2.2.1, .int .i64 y.2.2.2.2.2.2.2.2.1], .arr tRange y.2.2.2.2.2.2.2.2.2.1, .arr tWrite y.2.2.2.2.2.2.2.2.2.2]⟩) := (spec_l07Txn_x a0 a1 a2).trans (by rw [spec_l07Txn_e])

theorem spec_l07Txn_l : LoopsOk G12 ⟨1, 46, spec_l07Txn_loops⟩ (Try.f79.body.getD .skip) :=
  loopsOk_of (ids := []) (by kernel_rfl) (by kernel_rfl) trivial

theorem spec_l07Txn_c : Contract Try.prog 79 spec_l07Txn_g := by
  refine told G12_ok follows Try.func79 (c := Try.f79.body.getD .skip) (by kernel_rfl) ?_
  intro args s k r hk
  unfold spec_l07Txn_g at hk
  rcases onPats_inv hk with ⟨p, q, rfl, rfl⟩ | hk
  · exact ⟨spec_l07Txn_loops, spec_l07Txn_q q.1.1 q.1.2.1 q.1.2.2.1, spec_l07Txn_y q.1.1 q.1.2.1 q.1.2.2.1, spec_l07Txn_l⟩
  cases hk

def G13 : Glob := G12.add 79 spec_l07Txn_g

theorem G13_ok : GlobOk Try.prog G13 := G12_ok.add ⟨Try.f79, Try.func79, by kernel_rfl, by kernel_rfl⟩ spec_l07Txn_c

/-! ### loop.example/g00327/spec.DrawTxns -/

def spec_DrawTxns_loops : Nat → Option LoopSpec
  | 1000005 => some ⟨[0], [], fun _ _ _ => none⟩
  | _ => none

theorem spec_DrawTxns_x (a0 : (List Int)) : execFn G13 spec_DrawTxns_loops Try.f21 [.lst (.int .u8) a0] [] = spec_DrawTxns_d a0 (fun (y : (Int × Int × Int × Int × Bool × ByteArray × Int × Int × Int × Int × Bool × ByteArray × (List dRange) × (List dWrite) × (List dRange) × (List dWrite))) => some ⟨.ret, [.tup [.agg [.int .i64 y.1, .int .i64 y.2.1, .int .i64 y.2.2.1, .int .i64 y.2.2.2.1, .own 0, .own 1, .bool y.2.2.2.2.1, .str y.2.2.2.2.2.1], .agg [.int .i64 y.2.2.2.2.2.2.1, .int .i64 y.2.2.2.2.2.2.2.1, .int .i64 y.2.2.2.2.2.2.2.2.1, .int .i64 y.2.2.2.2.2.2.2.2.2.1, .own 2, .own 3, .bool y.2.2.2.2.2.2.2.2.2.2.1, .str y.2.2.2.2.2.2.2.2.2.2.2.1]]], [.arr tRange y.2.2.2.2.2.2.2.2.2.2.2.2.1, .arr tWrite y.2.2.2.2.2.2.2.2.2.2.2.2.2.1, .arr tRange y.2.2.2.2.2.2.2.2.2.2.2.2.2.2.1, .arr tWrite y.2.2.2.2.2.2.2.2.2.2.2.2.2.2.2]⟩) := by kernel_rfl

theorem spec_DrawTxns_y (a0 : (List Int)) : execFn G13 spec_DrawTxns_loops Try.f21 [.lst (.int .u8) a0] [] = spec_DrawTxns_k a0 (fun (y : (Int × Int × Int × Int × Bool × ByteArray × Int × Int × Int × Int × Bool × ByteArray × (List dRange) × (List dWrite) × (List dRange) × (List dWrite))) => some ⟨.ret, [.tup [.agg [.int .i64 y.1, .int .i64 y.2.1, .int .i64 y.2.2.1, .int .i64 y.2.2.2.1, .own 0, .own 1, .bool y.2.2.2.2.1, .str y.2.2.2.2.2.1], .agg [.int .i64 y.2.2.2.2.2.2.1, .int .i64 y.2.2.2.2.2.2.2.1, .int .i64 y.2.2.2.2.2.2.2.2.1, .int .i64 y.2.2.2.2.2.2.2.2.2.1, .own 2, .own 3, .bool y.2.2.2.2.2.2.2.2.2.2.1, .str y.2.2.2.2.2.2.2.2.2.2.2.1]]], [.arr tRange y.2.2.2.2.2.2.2.2.2.2.2.2.1, .arr tWrite y.2.2.2.2.2.2.2.2.2.2.2.2.2.1, .arr tRange y.2.2.2.2.2.2.2.2.2.2.2.2.2.2.1, .arr tWrite y.2.2.2.2.2.2.2.2.2.2.2.2.2.2.2]⟩) := (spec_DrawTxns_x a0).trans (by rw [spec_DrawTxns_e])

theorem spec_DrawTxns_l : LoopsOk G13 ⟨0, 19, spec_DrawTxns_loops⟩ (Try.f21.body.getD .skip) :=
  loopsOk_of (ids := []) (by kernel_rfl) (by kernel_rfl) trivial

theorem spec_DrawTxns_c : Contract Try.prog 21 spec_DrawTxns_g := by
  refine told G13_ok follows Try.func21 (c := Try.f21.body.getD .skip) (by kernel_rfl) ?_
  intro args s k r hk
  unfold spec_DrawTxns_g at hk
  rcases onPats_inv hk with ⟨p, q, rfl, rfl⟩ | hk
  · exact ⟨spec_DrawTxns_loops, spec_DrawTxns_q p.1, spec_DrawTxns_y p.1, spec_DrawTxns_l⟩
  cases hk

def G14 : Glob := G13.add 21 spec_DrawTxns_g

theorem G14_ok : GlobOk Try.prog G14 := G13_ok.add ⟨Try.f21, Try.func21, by kernel_rfl, by kernel_rfl⟩ spec_DrawTxns_c

/-! ### loop.example/g00327/impl.Beside$1 -/

def impl_Beside_1_loops : Nat → Option LoopSpec
  | _ => none

theorem impl_Beside_1_x (a0 : Int) (a1 : Int) (a2 : Int) (a3 : Int) (a4 : (List dRange)) (a5 : (List dWrite)) (a6 : Bool) (a7 : ByteArray) (a8 : Int) (a9 : Int) (a10 : Int) (a11 : Int) (a12 : (List dRange)) (a13 : (List dWrite)) (a14 : Bool) (a15 : ByteArray) : execFn G14 impl_Beside_1_loops Try.f75 [.agg [.int .i64 a0, .int .i64 a1, .int .i64 a2, .int .i64 a3, .lst tRange a4, .lst tWrite a5, .bool a6, .str a7], .agg [.int .i64 a8, .int .i64 a9, .int .i64 a10, .int .i64 a11, .lst tRange a12, .lst tWrite a13, .bool a14, .str a15]] [] = impl_Beside_1_d (a0, (a1, (a2, (a3, (a4, (a5, (a6, a7))))))) (a8, (a9, (a10, (a11, (a12, (a13, (a14, a15))))))) (fun (y : Bool) => some ⟨.ret, [.bool y], []⟩) := by kernel_rfl

theorem impl_Beside_1_y (a0 : Int) (a1 : Int) (a2 : Int) (a3 : Int) (a4 : (List dRange)) (a5 : (List dWrite)) (a6 : Bool) (a7 : ByteArray) (a8 : Int) (a9 : Int) (a10 : Int) (a11 : Int) (a12 : (List dRange)) (a13 : (List dWrite)) (a14 : Bool) (a15 : ByteArray) : execFn G14 impl_Beside_1_loops Try.f75 [.agg [.int .i64 a0, .int .i64 a1, .int .i64 a2, .int .i64 a3, .lst tRange a4, .lst tWrite a5, .bool a6, .str a7], .agg [.int .i64 a8, .int .i64 a9, .int .i64 a10, .int .i64 a11, .lst tRange a12, .lst tWrite a13, .bool a14, .str a15]] [] = impl_Beside_1_k (a0, (a1, (a2, (a3, (a4, (a5, (a6, a7))))))) (a8, (a9, (a10, (a11, (a12, (a13, (a14, a15))))))) (fun (y : Bool) => some ⟨.ret, [.bool y], []⟩) := (impl_Beside_1_x a0 a1 a2 a3 a4 a5 a6 a7 a8 a9 a10 a11 a12 a13 a14 a15).trans (by rw [impl_Beside_1_e])

theorem impl_Beside_1_l : LoopsOk G14 ⟨0, 15, impl_Beside_1_loops⟩ (Try.f75.body.getD .skip) :=
  loopsOk_of (ids := []) (by kernel_rfl) (by kernel_rfl) trivial

theorem impl_Beside_1_c : Contract Try.prog 75 impl_Beside_1_g := by
  refine told G14_ok follows Try.func75 (c := Try.f75.body.getD .skip) (by kernel_rfl) ?_
  intro args s k r hk
  unfold impl_Beside_1_g at hk
  rcases onPats_inv hk with ⟨p, q, rfl, rfl⟩ | hk
  · exact ⟨impl_Beside_1_loops, impl_Beside_1_q p.1.1 p.1.2.1 p.1.2.2.1 p.1.2.2.2.1 p.1.2.2.2.2.1 p.1.2.2.2.2.2.1 p.1.2.2.2.2.2.2.1 p.1.2.2.2.2.2.2.2.1 p.2.1.1 p.2.1.2.1 p.2.1.2.2.1 p.2.1.2.2.2.1 p.2.1.2.2.2.2.1 p.2.1.2.2.2.2.2.1 p.2.1.2.2.2.2.2.2.1 p.2.1.2.2.2.2.2.2.2.1, impl_Beside_1_y p.1.1 p.1.2.1 p.1.2.2.1 p.1.2.2.2.1 p.1.2.2.2.2.1 p.1.2.2.2.2.2.1 p.1.2.2.2.2.2.2.1 p.1.2.2.2.2.2.2.2.1 p.2.1.1 p.2.1.2.1 p.2.1.2.2.1 p.2.1.2.2.2.1 p.2.1.2.2.2.2.1 p.2.1.2.2.2.2.2.1 p.2.1.2.2.2.2.2.2.1 p.2.1.2.2.2.2.2.2.2.1, impl_Beside_1_l⟩
  cases hk

def G15 : Glob := G14.add 75 impl_Beside_1_g

theorem G15_ok : GlobOk Try.prog G15 := G14_ok.add ⟨Try.f75, Try.func75, by kernel_rfl, by kernel_rfl⟩ impl_Beside_1_c

/-! ### loop.example/g00327/impl.Beside -/

def impl_Beside_loops : Nat → Option LoopSpec
  | _ => none

theorem impl_Beside_x (a0 : Int) (a1 : Int) (a2 : Int) (a3 : Int) (a4 : (List dRange)) (a5 : (List dWrite)) (a6 : Bool) (a7 : ByteArray) (a8 : Int) (a9 : Int) (a10 : Int) (a11 : Int) (a12 : (List dRange)) (a13 : (List dWrite)) (a14 : Bool) (a15 : ByteArray) : execFn G15 impl_Beside_loops Try.f18 [.agg [.int .i64 a0, .int .i64 a1, .int .i64 a2, .int .i64 a3, .lst tRange a4, .lst tWrite a5, .bool a6, .str a7], .agg [.int .i64 a8, .int .i64 a9, .int .i64 a10, .int .i64 a11, .lst tRange a12, .lst tWrite a13, .bool a14, .str a15]] [] = impl_Beside_d (a0, (a1, (a2, (a3, (a4, (a5, (a6, a7))))))) (a8, (a9, (a10, (a11, (a12, (a13, (a14, a15))))))) (fun (y : Bool) => some ⟨.ret, [.bool y], []⟩) := by kernel_rfl

theorem impl_Beside_y (a0 : Int) (a1 : Int) (a2 : Int) (a3 : Int) (a4 : (List dRange)) (a5 : (List dWrite)) (a6 : Bool) (a7 : ByteArray) (a8 : Int) (a9 : Int) (a10 : Int) (a11 : Int) (a12 : (List dRange)) (a13 : (List dWrite)) (a14 : Bool) (a15 : ByteArray) : execFn G15 impl_Beside_loops Try.f18 [.agg [.int .i64 a0, .int .i64 a1, .int .i64 a2, .int .i64 a3, .lst tRange a4, .lst tWrite a5, .bool a6, .str a7], .agg [.int .i64 a8, .int .i64 a9, .int .i64 a10, .int .i64 a11, .lst tRange a12, .lst tWrite a13, .bool a14, .str a15]] [] = impl_Beside_k (a0, (a1, (a2, (a3, (a4, (a5, (a6, a7))))))) (a8, (a9, (a10, (a11, (a12, (a13, (a14, a15))))))) (fun (y : Bool) => some ⟨.ret, [.bool y], []⟩) := (impl_Beside_x a0 a1 a2 a3 a4 a5 a6 a7 a8 a9 a10 a11 a12 a13 a14 a15).trans (by rw [impl_Beside_e])

theorem impl_Beside_l : LoopsOk G15 ⟨0, 25, impl_Beside_loops⟩ (Try.f18.body.getD .skip) :=
  loopsOk_of (ids := []) (by kernel_rfl) (by kernel_rfl) trivial

theorem impl_Beside_c : Contract Try.prog 18 impl_Beside_g := by
  refine told G15_ok follows Try.func18 (c := Try.f18.body.getD .skip) (by kernel_rfl) ?_
  intro args s k r hk
  unfold impl_Beside_g at hk
  rcases onPats_inv hk with ⟨p, q, rfl, rfl⟩ | hk
  · exact ⟨impl_Beside_loops, impl_Beside_q p.1.1 p.1.2.1 p.1.2.2.1 p.1.2.2.2.1 p.1.2.2.2.2.1 p.1.2.2.2.2.2.1 p.1.2.2.2.2.2.2.1 p.1.2.2.2.2.2.2.2.1 p.2.1.1 p.2.1.2.1 p.2.1.2.2.1 p.2.1.2.2.2.1 p.2.1.2.2.2.2.1 p.2.1.2.2.2.2.2.1 p.2.1.2.2.2.2.2.2.1 p.2.1.2.2.2.2.2.2.2.1, impl_Beside_y p.1.1 p.1.2.1 p.1.2.2.1 p.1.2.2.2.1 p.1.2.2.2.2.1 p.1.2.2.2.2.2.1 p.1.2.2.2.2.2.2.1 p.1.2.2.2.2.2.2.2.1 p.2.1.1 p.2.1.2.1 p.2.1.2.2.1 p.2.1.2.2.2.1 p.2.1.2.2.2.2.1 p.2.1.2.2.2.2.2.1 p.2.1.2.2.2.2.2.2.1 p.2.1.2.2.2.2.2.2.2.1, impl_Beside_l⟩
  cases hk

def G16 : Glob := G15.add 18 impl_Beside_g

theorem G16_ok : GlobOk Try.prog G16 := G15_ok.add ⟨Try.f18, Try.func18, by kernel_rfl, by kernel_rfl⟩ impl_Beside_c

/-! ### loop.example/g00327/spec.l07Copy -/

def spec_l07Copy_loops : Nat → Option LoopSpec
  | _ => none

theorem spec_l07Copy_x (a0 : Int) (a1 : Int) (a2 : Int) (a3 : Int) (a4 : (List dRange)) (a5 : (List dWrite)) (a6 : Bool) (a7 : ByteArray) : execFn G16 spec_l07Copy_loops Try.f158 [.agg [.int .i64 a0, .int .i64 a1, .int .i64 a2, .int .i64 a3, .lst tRange a4, .lst tWrite a5, .bool a6, .str a7]] [] = spec_l07Copy_d (a0, (a1, (a2, (a3, (a4, (a5, (a6, a7))))))) (fun (y : (Int × Int × Int × Int × Bool × ByteArray × (List dRange) × (List dWrite))) => some ⟨.ret, [.agg [.int .i64 y.1, .int .i64 y.2.1, .int .i64 y.2.2.1, .int .i64 y.2.2.2.1, .own 0, .own 1, .bool y.2.2.2.2.1, .str y.2.2.2.2.2.1]], [.arr tRange y.2.2.2.2.2.2.1, .arr tWrite y.2.2.2.2.2.2.2]⟩) := by kernel_rfl

theorem spec_l07Copy_y (a0 : Int) (a1 : Int) (a2 : Int) (a3 : Int) (a4 : (List dRange)) (a5 : (List dWrite)) (a6 : Bool) (a7 : ByteArray) : execFn G16 spec_l07Copy_loops Try.f158 [.agg [.int .i64 a0, .int .i64 a1, .int .i64 a2, .int .i64 a3, .lst tRange a4, .lst tWrite a5, .bool a6, .str a7]] [] = spec_l07Copy_k (a0, (a1, (a2, (a3, (a4, (a5, (a6, a7))))))) (fun (y : (Int × Int × Int × Int × Bool × ByteArray × (List dRange) × (List dWrite))) => some ⟨.ret, [.agg [.int .i64 y.1, .int .i64 y.2.1, .int .i64 y.2.2.1, .int .i64 y.2.2.2.1, .own 0, .own 1, .bool y.2.2.2.2.1, .str y.2.2.2.2.2.1]], [.arr tRange y.2.2.2.2.2.2.1, .arr tWrite y.2.2.2.2.2.2.2]⟩) := (spec_l07Copy_x a0 a1 a2 a3 a4 a5 a6 a7).trans (by rw [spec_l07Copy_e])

theorem spec_l07Copy_l : LoopsOk G16 ⟨0, 16, spec_l07Copy_loops⟩ (Try.f158.body.getD .skip) :=
  loopsOk_of (ids := []) (by kernel_rfl) (by kernel_rfl) trivial

theorem spec_l07Copy_c : Contract Try.prog 158 spec_l07Copy_g := by
  refine told G16_ok follows Try.func158 (c := Try.f158.body.getD .skip) (by kernel_rfl) ?_
  intro args s k r hk
  unfold spec_l07Copy_g at hk
  rcases onPats_inv hk with ⟨p, q, rfl, rfl⟩ | hk
  · exact ⟨spec_l07Copy_loops, spec_l07Copy_q p.1.1 p.1.2.1 p.1.2.2.1 p.1.2.2.2.1 p.1.2.2.2.2.1 p.1.2.2.2.2.2.1 p.1.2.2.2.2.2.2.1 p.1.2.2.2.2.2.2.2.1, spec_l07Copy_y p.1.1 p.1.2.1 p.1.2.2.1 p.1.2.2.2.1 p.1.2.2.2.2.1 p.1.2.2.2.2.2.1 p.1.2.2.2.2.2.2.1 p.1.2.2.2.2.2.2.2.1, spec_l07Copy_l⟩
  cases hk

def G17 : Glob := G16.add 158 spec_l07Copy_g

theorem G17_ok : GlobOk Try.prog G17 := G16_ok.add ⟨Try.f158, Try.func158, by kernel_rfl, by kernel_rfl⟩ spec_l07Copy_c

/-! ### loop.example/g00327/spec.l01Long -/

def spec_l01Long_loops : Nat → Option LoopSpec
  | 0 => some ⟨[0, 1, 5, 6], [], fun vals st k => onPats [.int .i64, .int .u8, .own 0, .int .i64] [.arr (.int .u8)] vals st (fun p q => loopK spec_l01Long_b0 Fuel (p.1, p.2.1, p.2.2.2.1, q.1) (fun z => k (.exit 0) [.int .i64 z.1, .int .u8 z.2.1, .own 0, .int .i64 z.2.2.1] [.arr (.int .u8) z.2.2.2]))
      (none)⟩
  | _ => none

def spec_l01Long_v0 : (Int × Int × Int × (List Int)) → List AV := (fun x => [.int .i64 x.1, .int .u8 x.2.1, .own 0, .int .i64 x.2.2.1])
def spec_l01Long_s0 : (Int × Int × Int × (List Int)) → St := (fun x => [.arr (.int .u8) x.2.2.2])
def spec_l01Long_e0 : (Int × Int × Int × (List Int)) → Out × List AV × St := (fun z => ((.exit 0), [.int .i64 z.1, .int .u8 z.2.1, .own 0, .int .i64 z.2.2.1], [.arr (.int .u8) z.2.2.2]))

theorem spec_l01Long_bx0 (x : (Int × Int × Int × (List Int))) : exec G17 ⟨0, 20, spec_l01Long_loops⟩ (loopBody Try.f144 0) (bodyK ⟨0, 20, spec_l01Long_loops⟩ [0, 1, 5, 6] []) (setEs (deads 20) [0, 1, 5, 6] (spec_l01Long_v0 x)) (spec_l01Long_s0 x) = spec_l01Long_b0 x (Sum.elim (fun y => some ⟨.norm, spec_l01Long_v0 y, spec_l01Long_s0 y⟩) fun z => some ⟨(spec_l01Long_e0 z).1, (spec_l01Long_e0 z).2.1, (spec_l01Long_e0 z).2.2⟩) := by
  kernel_rfl

theorem spec_l01Long_lo0 : ∀ sp, (spec_l01Long_loops 0) = some sp → LoopOk G17 ⟨0, 20, spec_l01Long_loops⟩ sp (loopBody Try.f144 0) := by
  intro sp hsp vals st k r h
  cases hsp
  dsimp only at h
  rcases onPats_inv2 h with ⟨p, q, rfl, rfl, h⟩ | h
  · exact loop_runs2 spec_l01Long_bp0 spec_l01Long_v0 spec_l01Long_s0 spec_l01Long_e0 (fun z => by (intro h; cases h)) spec_l01Long_bx0 Fuel (p.1, p.2.1, p.2.2.2.1, q.1) _ k r (fun z => rfl) h
  cases h

theorem spec_l01Long_x (a0 : Int) (a1 : Int) : execFn G17 spec_l01Long_loops Try.f144 [.int .i64 a0, .int .u8 a1] [] = spec_l01Long_d a0 a1 (fun (y : ByteArray) => some ⟨.ret, [.str y], []⟩) := by kernel_rfl

theorem spec_l01Long_y (a0 : Int) (a1 : Int) : execFn G17 spec_l01Long_loops Try.f144 [.int .i64 a0, .int .u8 a1] [] = spec_l01Long_k a0 a1 (fun (y : ByteArray) => some ⟨.ret, [.str y], []⟩) := (spec_l01Long_x a0 a1).trans (by rw [spec_l01Long_e])

theorem spec_l01Long_l : LoopsOk G17 ⟨0, 20, spec_l01Long_loops⟩ (Try.f144.body.getD .skip) :=
  loopsOk_of (ids := [0]) (by kernel_rfl) (by kernel_rfl) ⟨spec_l01Long_lo0, trivial⟩

theorem spec_l01Long_c : Contract Try.prog 144 spec_l01Long_g := by
  refine told G17_ok follows Try.func144 (c := Try.f144.body.getD .skip) (by kernel_rfl) ?_
  intro args s k r hk
  unfold spec_l01Long_g at hk
  rcases onPats_inv hk with ⟨p, q, rfl, rfl⟩ | hk
  · exact ⟨spec_l01Long_loops, spec_l01Long_q p.1 p.2.1, spec_l01Long_y p.1 p.2.1, spec_l01Long_l⟩
  cases hk

def G18 : Glob := G17.add 144 spec_l01Long_g

theorem G18_ok : GlobOk Try.prog G18 := G17_ok.add ⟨Try.f144, Try.func144, by kernel_rfl, by kernel_rfl⟩ spec_l01Long_c

/-! ### loop.example/g00327/spec.l05Any -/

def spec_l05Any_loops : Nat → Option LoopSpec
  | _ => none

theorem spec_l05Any_x (a0 : (List Int)) (a1 : Int) (a2 : Int) : execFn G18 spec_l05Any_loops Try.f159 [.bp 0 0] [.box [.lst (.int .u8) a0, .int .i64 a1, .int .i64 a2]] = spec_l05Any_d a0 a1 a2 (fun (y : (ByteArray × ByteArray × Bool × (List Int) × Int × Int)) => some ⟨.ret, [.agg [.str y.1, .str y.2.1, .bool y.2.2.1]], [.box [.lst (.int .u8) y.2.2.2.1, .int .i64 y.2.2.2.2.1, .int .i64 y.2.2.2.2.2]]⟩) := by kernel_rfl

theorem spec_l05Any_y (a0 : (List Int)) (a1 : Int) (a2 : Int) : execFn G18 spec_l05Any_loops Try.f159 [.bp 0 0] [.box [.lst (.int .u8) a0, .int .i64 a1, .int .i64 a2]] = spec_l05Any_k a0 a1 a2 (fun (y : (ByteArray × ByteArray × Bool × (List Int) × Int × Int)) => some ⟨.ret, [.agg [.str y.1, .str y.2.1, .bool y.2.2.1]], [.box [.lst (.int .u8) y.2.2.2.1, .int .i64 y.2.2.2.2.1, .int .i64 y.2.2.2.2.2]]⟩) := (spec_l05Any_x a0 a1 a2).trans (by rw [spec_l05Any_e])

theorem spec_l05Any_l : LoopsOk G18 ⟨1, 25, spec_l05Any_loops⟩ (Try.f159.body.getD .skip) :=
  loopsOk_of (ids := []) (by kernel_rfl) (by kernel_rfl) trivial

theorem spec_l05Any_c : Contract Try.prog 159 spec_l05Any_g := by
  refine told G18_ok follows Try.func159 (c := Try.f159.body.getD .skip) (by kernel_rfl) ?_
  intro args s k r hk
  unfold spec_l05Any_g at hk
  rcases onPats_inv hk with ⟨p, q, rfl, rfl⟩ | hk
  · exact ⟨spec_l05Any_loops, spec_l05Any_q q.1.1 q.1.2.1 q.1.2.2.1, spec_l05Any_y q.1.1 q.1.2.1 q.1.2.2.1, spec_l05Any_l⟩
  cases hk

def G19 : Glob := G18.add 159 spec_l05Any_g

theorem G19_ok : GlobOk Try.prog G19 := G18_ok.add ⟨Try.f159, Try.func159, by kernel_rfl, by kernel_rfl⟩ spec_l05Any_c

/-! ### loop.example/g00327/spec.l07Any -/

def spec_l07Any_loops : Nat → Option LoopSpec
  | 1000016 => some ⟨[0, 5], [], fun _ _ _ => none⟩
  | _ => none

theorem spec_l07Any_x (a0 : (List Int)) (a1 : Int) (a2 : Int) : execFn G19 spec_l07Any_loops Try.f137 [.bp 0 0] [.box [.lst (.int .u8) a0, .int .i64 a1, .int .i64 a2]] = spec_l07Any_d a0 a1 a2 (fun (y : (Int × Int × Int × Int × Bool × ByteArray × (List Int) × Int × Int × (List dRange) × (List dWrite))) => some ⟨.ret, [.agg [.int .i64 y.1, .int .i64 y.2.1, .int .i64 y.2.2.1, .int .i64 y.2.2.2.1, .own 1, .own 2, .bool y.2.2.2.2.1, .str y.2.2.2.2.2.1]], [.box [.lst (.int .u8) y.2.2.2.2.2.2.1, .int .i64 y.2.2.2.2.2.2.2.1, .int .i64 y.2.2.2.2.2.2.2.2.1], .arr tRange y.2.2.2.2.2.2.2.2.2.1, .arr tWrite y.2.2.2.2.2.2.2.2.2.2]⟩) := by kernel_rfl

theorem spec_l07Any_y (a0 : (List Int)) (a1 : Int) (a2 : Int) : execFn G19 spec_l07Any_loops Try.f137 [.bp 0 0] [.box [.lst (.int .u8) a0, .int .i64 a1, .int .i64 a2]] = spec_l07Any_k a0 a1 a2 (fun (y : (Int × Int × Int × Int × Bool × ByteArray × (List Int) × Int × Int × (List dRange) × (List dWrite))) => some ⟨.ret, [.agg [.int .i64 y.1, .int .i64 y.2.1, .int .i64 y.2.2.1, .int .i64 y.2.2.2.1, .own 1, .own 2, .bool y.2.2.2.2.1, .str y.2.2.2.2.2.1]], [.box [.lst (.int .u8) y.2.2.2.2.2.2.1, .int .i64 y.2.2.2.2.2.2.2.1, .int .i64 y.2.2.2.2.2.2.2.2.1], .arr tRange y.2.2.2.2.2.2.2.2.2.1, .arr tWrite y.2.2.2.2.2.2.2.2.2.2]⟩) := (spec_l07Any_x a0 a1 a2).trans (by rw [spec_l07Any_e])

theorem spec_l07Any_l : LoopsOk G19 ⟨1, 61, spec_l07Any_loops⟩ (Try.f137.body.getD .skip) :=
  loopsOk_of (ids := []) (by kernel_rfl) (by kernel_rfl) trivial

theorem spec_l07Any_c : Contract Try.prog 137 spec_l07Any_g := by
  refine told G19_ok follows Try.func137 (c := Try.f137.body.getD .skip) (by kernel_rfl) ?_
  intro args s k r hk
  unfold spec_l07Any_g at hk
  rcases onPats_inv hk with ⟨p, q, rfl, rfl⟩ | hk
  · exact ⟨spec_l07Any_loops, spec_l07Any_q q.1.1 q.1.2.1 q.1.2.2.1, spec_l07Any_y q.1.1 q.1.2.1 q.1.2.2.1, spec_l07Any_l⟩
  cases hk

def G20 : Glob := G19.add 137 spec_l07Any_g

theorem G20_ok : GlobOk Try.prog G20 := G19_ok.add ⟨Try.f137, Try.func137, by kernel_rfl, by kernel_rfl⟩ spec_l07Any_c

/-! ### loop.example/g00327/spec.l08Pair -/

def spec_l08Pair_loops : Nat → Option LoopSpec
  | 1000003 => some ⟨[0, 2], [], fun _ _ _ => none⟩
  | _ => none

theorem spec_l08Pair_x (a0 : (List Int)) : execFn G20 spec_l08Pair_loops Try.f80 [.lst (.int .u8) a0] [] = spec_l08Pair_d a0 (fun (y : (Int × Int × Int × Int × Bool × ByteArray × Int × Int × Int × Int × Bool × ByteArray × (List dRange) × (List dWrite) × (List dRange) × (List dWrite))) => some ⟨.ret, [.tup [.agg [.int .i64 y.1, .int .i64 y.2.1, .int .i64 y.2.2.1, .int .i64 y.2.2.2.1, .own 0, .own 1, .bool y.2.2.2.2.1, .str y.2.2.2.2.2.1], .agg [.int .i64 y.2.2.2.2.2.2.1, .int .i64 y.2.2.2.2.2.2.2.1, .int .i64 y.2.2.2.2.2.2.2.2.1, .int .i64 y.2.2.2.2.2.2.2.2.2.1, .own 2, .own 3, .bool y.2.2.2.2.2.2.2.2.2.2.1, .str y.2.2.2.2.2.2.2.2.2.2.2.1]]], [.arr tRange y.2.2.2.2.2.2.2.2.2.2.2.2.1, .arr tWrite y.2.2.2.2.2.2.2.2.2.2.2.2.2.1, .arr tRange y.2.2.2.2.2.2.2.2.2.2.2.2.2.2.1, .arr tWrite y.2.2.2.2.2.2.2.2.2.2.2.2.2.2.2]⟩) := by kernel_rfl

theorem spec_l08Pair_y (a0 : (List Int)) : execFn G20 spec_l08Pair_loops Try.f80 [.lst (.int .u8) a0] [] = spec_l08Pair_k a0 (fun (y : (Int × Int × Int × Int × Bool × ByteArray × Int × Int × Int × Int × Bool × ByteArray × (List dRange) × (List dWrite) × (List dRange) × (List dWrite))) => some ⟨.ret, [.tup [.agg [.int .i64 y.1, .int .i64 y.2.1, .int .i64 y.2.2.1, .int .i64 y.2.2.2.1, .own 0, .own 1, .bool y.2.2.2.2.1, .str y.2.2.2.2.2.1], .agg [.int .i64 y.2.2.2.2.2.2.1, .int .i64 y.2.2.2.2.2.2.2.1, .int .i64 y.2.2.2.2.2.2.2.2.1, .int .i64 y.2.2.2.2.2.2.2.2.2.1, .own 2, .own 3, .bool y.2.2.2.2.2.2.2.2.2.2.1, .str y.2.2.2.2.2.2.2.2.2.2.2.1]]], [.arr tRange y.2.2.2.2.2.2.2.2.2.2.2.2.1, .arr tWrite y.2.2.2.2.2.2.2.2.2.2.2.2.2.1, .arr tRange y.2.2.2.2.2.2.2.2.2.2.2.2.2.2.1, .arr tWrite y.2.2.2.2.2.2.2.2.2.2.2.2.2.2.2]⟩) := (spec_l08Pair_x a0).trans (by rw [spec_l08Pair_e])

theorem spec_l08Pair_l : LoopsOk G20 ⟨0, 13, spec_l08Pair_loops⟩ (Try.f80.body.getD .skip) :=
  loopsOk_of (ids := []) (by kernel_rfl) (by kernel_rfl) trivial

theorem spec_l08Pair_c : Contract Try.prog 80 spec_l08Pair_g := by
  refine told G20_ok follows Try.func80 (c := Try.f80.body.getD .skip) (by kernel_rfl) ?_
  intro args s k r hk
  unfold spec_l08Pair_g at hk
  rcases onPats_inv hk with ⟨p, q, rfl, rfl⟩ | hk
  · exact ⟨spec_l08Pair_loops, spec_l08Pair_q p.1, spec_l08Pair_y p.1, spec_l08Pair_l⟩
  cases hk

def G21 : Glob := G20.add 80 spec_l08Pair_g

theorem G21_ok : GlobOk Try.prog G21 := G20_ok.add ⟨Try.f80, Try.func80, by kernel_rfl, by kernel_rfl⟩ spec_l08Pair_c

/-! ### loop.example/g00327/spec.DrawAhead -/

def spec_DrawAhead_loops : Nat → Option LoopSpec
  | _ => none

theorem spec_DrawAhead_x (a0 : (List Int)) : execFn G21 spec_DrawAhead_loops Try.f22 [.lst (.int .u8) a0] [] = spec_DrawAhead_d a0 (fun (y : (Int × Int × Int × Int × Bool × ByteArray × Int × Int × Int × Int × Bool × ByteArray × (List dRange) × (List dWrite) × (List dRange) × (List dWrite))) => some ⟨.ret, [.tup [.agg [.int .i64 y.1, .int .i64 y.2.1, .int .i64 y.2.2.1, .int .i64 y.2.2.2.1, .own 0, .own 1, .bool y.2.2.2.2.1, .str y.2.2.2.2.2.1], .agg [.int .i64 y.2.2.2.2.2.2.1, .int .i64 y.2.2.2.2.2.2.2.1, .int .i64 y.2.2.2.2.2.2.2.2.1, .int .i64 y.2.2.2.2.2.2.2.2.2.1, .own 2, .own 3, .bool y.2.2.2.2.2.2.2.2.2.2.1, .str y.2.2.2.2.2.2.2.2.2.2.2.1]]], [.arr tRange y.2.2.2.2.2.2.2.2.2.2.2.2.1, .arr tWrite y.2.2.2.2.2.2.2.2.2.2.2.2.2.1, .arr tRange y.2.2.2.2.2.2.2.2.2.2.2.2.2.2.1, .arr tWrite y.2.2.2.2.2.2.2.2.2.2.2.2.2.2.2]⟩) := by kernel_rfl

theorem spec_DrawAhead_y (a0 : (List Int)) : execFn G21 spec_DrawAhead_loops Try.f22 [.lst (.int .u8) a0] [] = spec_DrawAhead_k a0 (fun (y : (Int × Int × Int × Int × Bool × ByteArray × Int × Int × Int × Int × Bool × ByteArray × (List dRange) × (List dWrite) × (List dRange) × (List dWrite))) => some ⟨.ret, [.tup [.agg [.int .i64 y.1, .int .i64 y.2.1, .int .i64 y.2.2.1, .int .i64 y.2.2.2.1, .own 0, .own 1, .bool y.2.2.2.2.1, .str y.2.2.2.2.2.1], .agg [.int .i64 y.2.2.2.2.2.2.1, .int .i64 y.2.2.2.2.2.2.2.1, .int .i64 y.2.2.2.2.2.2.2.2.1, .int .i64 y.2.2.2.2.2.2.2.2.2.1, .own 2, .own 3, .bool y.2.2.2.2.2.2.2.2.2.2.1, .str y.2.2.2.2.2.2.2.2.2.2.2.1]]], [.arr tRange y.2.2.2.2.2.2.2.2.2.2.2.2.1, .arr tWrite y.2.2.2.2.2.2.2.2.2.2.2.2.2.1, .arr tRange y.2.2.2.2.2.2.2.2.2.2.2.2.2.2.1, .arr tWrite y.2.2.2.2.2.2.2.2.2.2.2.2.2.2.2]⟩) := (spec_DrawAhead_x a0).trans (by rw [spec_DrawAhead_e])

theorem spec_DrawAhead_l : LoopsOk G21 ⟨0, 8, spec_DrawAhead_loops⟩ (Try.f22.body.getD .skip) :=
  loopsOk_of (ids := []) (by kernel_rfl) (by kernel_rfl) trivial

theorem spec_DrawAhead_c : Contract Try.prog 22 spec_DrawAhead_g := by
  refine told G21_ok follows Try.func22 (c := Try.f22.body.getD .skip) (by kernel_rfl) ?_
  intro args s k r hk
  unfold spec_DrawAhead_g at hk
  rcases onPats_inv hk with ⟨p, q, rfl, rfl⟩ | hk
  · exact ⟨spec_DrawAhead_loops, spec_DrawAhead_q p.1, spec_DrawAhead_y p.1, spec_DrawAhead_l⟩
  cases hk

def G22 : Glob := G21.add 22 spec_DrawAhead_g

theorem G22_ok : GlobOk Try.prog G22 := G21_ok.add ⟨Try.f22, Try.func22, by kernel_rfl, by kernel_rfl⟩ spec_DrawAhead_c

/-! ### loop.example/g00327/impl.InRange -/

def impl_InRange_loops : Nat → Option LoopSpec
  | _ => none

theorem impl_InRange_x (a0 : ByteArray) (a1 : ByteArray) (a2 : ByteArray) : execFn G22 impl_InRange_loops Try.f105 [.agg [.str a0, .str a1], .str a2] [] = impl_InRange_d (a0, a1) a2 (fun (y : Bool) => some ⟨.ret, [.bool y], []⟩) := by kernel_rfl

theorem impl_InRange_y (a0 : ByteArray) (a1 : ByteArray) (a2 : ByteArray) : execFn G22 impl_InRange_loops Try.f105 [.agg [.str a0, .str a1], .str a2] [] = impl_InRange_k (a0, a1) a2 (fun (y : Bool) => some ⟨.ret, [.bool y], []⟩) := (impl_InRange_x a0 a1 a2).trans (by rw [impl_InRange_e])

theorem impl_InRange_l : LoopsOk G22 ⟨0, 15, impl_InRange_loops⟩ (Try.f105.body.getD .skip) :=
  loopsOk_of (ids := []) (by kernel_rfl) (by kernel_rfl) trivial

theorem impl_InRange_c : Contract Try.prog 105 impl_InRange_g := by
  refine told G22_ok follows Try.func105 (c := Try.f105.body.getD .skip) (by kernel_rfl) ?_
  intro args s k r hk
  unfold impl_InRange_g at hk
  rcases onPats_inv hk with ⟨p, q, rfl, rfl⟩ | hk
  · exact ⟨impl_InRange_loops, impl_InRange_q p.1.1 p.1.2.1 p.2.1, impl_InRange_y p.1.1 p.1.2.1 p.2.1, impl_InRange_l⟩
  cases hk

def G23 : Glob := G22.add 105 impl_InRange_g

theorem G23_ok : GlobOk Try.prog G23 := G22_ok.add ⟨Try.f105, Try.func105, by kernel_rfl, by kernel_rfl⟩ impl_InRange_c

/-! ### loop.example/g00327/impl.Touches -/

def impl_Touches_loops : Nat → Option LoopSpec
  | 2 => some ⟨[1, 4, 6, 9, 10, 11, 15, 16, 17], [], fun vals st k => onPats [.lst tWrite, .bool, .bp 0 0, .lst tRange, .int .i64, .int .i64, .lst tWrite, .int .i64, .int .i64] [.box [.str, .str]] vals st (fun p q => loopK impl_Touches_b2 Fuel (p.1, p.2.1, p.2.2.2.1, p.2.2.2.2.1, p.2.2.2.2.2.1, p.2.2.2.2.2.2.1, p.2.2.2.2.2.2.2.1, p.2.2.2.2.2.2.2.2.1, q.1.1, q.1.2.1) (Sum.elim (fun z => k .ret [.lst tWrite z.1, .bool z.2.1, .bp 0 0, .lst tRange z.2.2.1, .int .i64 z.2.2.2.1, .int .i64 z.2.2.2.2.1, .lst tWrite z.2.2.2.2.2.1, .int .i64 z.2.2.2.2.2.2.1, .int .i64 z.2.2.2.2.2.2.2.1] [.box [.str z.2.2.2.2.2.2.2.2.1, .str z.2.2.2.2.2.2.2.2.2]]) (fun z => k (.exit 2) [.lst tWrite z.1, .bool z.2.1, .bp 0 0, .lst tRange z.2.2.1, .int .i64 z.2.2.2.1, .int .i64 z.2.2.2.2.1, .lst tWrite z.2.2.2.2.2.1, .int .i64 z.2.2.2.2.2.2.1, .int .i64 z.2.2.2.2.2.2.2.1] [.box [.str z.2.2.2.2.2.2.2.2.1, .str z.2.2.2.2.2.2.2.2.2]])))
      (none)⟩
  | 0 => some ⟨[1, 4, 9, 10, 11], [], fun vals st k => onPats [.lst tWrite, .bool, .lst tRange, .int .i64, .int .i64] [] vals st (fun p q => loopK impl_Touches_b0 Fuel (p.1, p.2.1, p.2.2.1, p.2.2.2.1, p.2.2.2.2.1) (Sum.elim (fun z => k (.exit 0) [.lst tWrite z.1, .bool z.2.1, .lst tRange z.2.2.1, .int .i64 z.2.2.2.1, .int .i64 z.2.2.2.2] []) (fun z => k .ret [.lst tWrite z.1, .bool z.2.1, .lst tRange z.2.2.1, .int .i64 z.2.2.2.1, .int .i64 z.2.2.2.2] [])))
      (none)⟩
  | _ => none

def impl_Touches_v2 : ((List dWrite) × Bool × (List dRange) × Int × Int × (List dWrite) × Int × Int × ByteArray × ByteArray) → List AV := (fun x => [.lst tWrite x.1, .bool x.2.1, .bp 0 0, .lst tRange x.2.2.1, .int .i64 x.2.2.2.1, .int .i64 x.2.2.2.2.1, .lst tWrite x.2.2.2.2.2.1, .int .i64 x.2.2.2.2.2.2.1, .int .i64 x.2.2.2.2.2.2.2.1])
def impl_Touches_s2 : ((List dWrite) × Bool × (List dRange) × Int × Int × (List dWrite) × Int × Int × ByteArray × ByteArray) → St := (fun x => [.box [.str x.2.2.2.2.2.2.2.2.1, .str x.2.2.2.2.2.2.2.2.2]])
def impl_Touches_e2 : (((List dWrite) × Bool × (List dRange) × Int × Int × (List dWrite) × Int × Int × ByteArray × ByteArray) ⊕ ((List dWrite) × Bool × (List dRange) × Int × Int × (List dWrite) × Int × Int × ByteArray × ByteArray)) → Out × List AV × St := (Sum.elim (fun z => (.ret, [.lst tWrite z.1, .bool z.2.1, .bp 0 0, .lst tRange z.2.2.1, .int .i64 z.2.2.2.1, .int .i64 z.2.2.2.2.1, .lst tWrite z.2.2.2.2.2.1, .int .i64 z.2.2.2.2.2.2.1, .int .i64 z.2.2.2.2.2.2.2.1], [.box [.str z.2.2.2.2.2.2.2.2.1, .str z.2.2.2.2.2.2.2.2.2]])) (fun z => ((.exit 2), [.lst tWrite z.1, .bool z.2.1, .bp 0 0, .lst tRange z.2.2.1, .int .i64 z.2.2.2.1, .int .i64 z.2.2.2.2.1, .lst tWrite z.2.2.2.2.2.1, .int .i64 z.2.2.2.2.2.2.1, .int .i64 z.2.2.2.2.2.2.2.1], [.box [.str z.2.2.2.2.2.2.2.2.1, .str z.2.2.2.2.2.2.2.2.2]])))

theorem impl_Touches_bx2 (x : ((List dWrite) × Bool × (List dRange) × Int × Int × (List dWrite) × Int × Int × ByteArray × ByteArray)) : exec G23 ⟨0, 27, impl_Touches_loops⟩ (loopBody Try.f81 2) (bodyK ⟨0, 27, impl_Touches_loops⟩ [1, 4, 6, 9, 10, 11, 15, 16, 17] []) (setEs (deads 27) [1, 4, 6, 9, 10, 11, 15, 16, 17] (impl_Touches_v2 x)) (impl_Touches_s2 x) = impl_Touches_b2 x (Sum.elim (fun y => some ⟨.norm, impl_Touches_v2 y, impl_Touches_s2 y⟩) fun z => some ⟨(impl_Touches_e2 z).1, (impl_Touches_e2 z).2.1, (impl_Touches_e2 z).2.2⟩) := by
  kernel_rfl

theorem impl_Touches_lo2 : ∀ sp, (impl_Touches_loops 2) = some sp → LoopOk G23 ⟨0, 27, impl_Touches_loops⟩ sp (loopBody Try.f81 2) := by
  intro sp hsp vals st k r h
  cases hsp
  dsimp only at h
  rcases onPats_inv2 h with ⟨p, q, rfl, rfl, h⟩ | h
  · exact loop_runs2 impl_Touches_bp2 impl_Touches_v2 impl_Touches_s2 impl_Touches_e2 (fun z => by rcases z with z | z <;> (intro h; cases h)) impl_Touches_bx2 Fuel (p.1, p.2.1, p.2.2.2.1, p.2.2.2.2.1, p.2.2.2.2.2.1, p.2.2.2.2.2.2.1, p.2.2.2.2.2.2.2.1, p.2.2.2.2.2.2.2.2.1, q.1.1, q.1.2.1) _ k r (fun z => by rcases z with z | z <;> rfl) h
  cases h

def impl_Touches_v0 : ((List dWrite) × Bool × (List dRange) × Int × Int) → List AV := (fun x => [.lst tWrite x.1, .bool x.2.1, .lst tRange x.2.2.1, .int .i64 x.2.2.2.1, .int .i64 x.2.2.2.2])
def impl_Touches_s0 : ((List dWrite) × Bool × (List dRange) × Int × Int) → St := (fun x => [])
def impl_Touches_e0 : (((List dWrite) × Bool × (List dRange) × Int × Int) ⊕ ((List dWrite) × Bool × (List dRange) × Int × Int)) → Out × List AV × St := (Sum.elim (fun z => ((.exit 0), [.lst tWrite z.1, .bool z.2.1, .lst tRange z.2.2.1, .int .i64 z.2.2.2.1, .int .i64 z.2.2.2.2], [])) (fun z => (.ret, [.lst tWrite z.1, .bool z.2.1, .lst tRange z.2.2.1, .int .i64 z.2.2.2.1, .int .i64 z.2.2.2.2], [])))

theorem impl_Touches_bx0 (x : ((List dWrite) × Bool × (List dRange) × Int × Int)) : exec G23 ⟨0, 27, impl_Touches_loops⟩ (loopBody Try.f81 0) (bodyK ⟨0, 27, impl_Touches_loops⟩ [1, 4, 9, 10, 11] []) (setEs (deads 27) [1, 4, 9, 10, 11] (impl_Touches_v0 x)) (impl_Touches_s0 x) = impl_Touches_b0 x (Sum.elim (fun y => some ⟨.norm, impl_Touches_v0 y, impl_Touches_s0 y⟩) fun z => some ⟨(impl_Touches_e0 z).1, (impl_Touches_e0 z).2.1, (impl_Touches_e0 z).2.2⟩) := by
  kernel_rfl

theorem impl_Touches_lo0 : ∀ sp, (impl_Touches_loops 0) = some sp → LoopOk G23 ⟨0, 27, impl_Touches_loops⟩ sp (loopBody Try.f81 0) := by
  intro sp hsp vals st k r h
  cases hsp
  dsimp only at h
  rcases onPats_inv2 h with ⟨p, q, rfl, rfl, h⟩ | h
  · exact loop_runs2 impl_Touches_bp0 impl_Touches_v0 impl_Touches_s0 impl_Touches_e0 (fun z => by rcases z with z | z <;> (intro h; cases h)) impl_Touches_bx0 Fuel (p.1, p.2.1, p.2.2.1, p.2.2.2.1, p.2.2.2.2.1) _ k r (fun z => by rcases z with z | z <;> rfl) h
  cases h

theorem impl_Touches_x (a0 : (List dRange)) (a1 : (List dWrite)) : execFn G23 impl_Touches_loops Try.f81 [.lst tRange a0, .lst tWrite a1] [] = impl_Touches_d a0 a1 (fun (y : Bool) => some ⟨.ret, [.bool y], []⟩) := by kernel_rfl

theorem impl_Touches_y (a0 : (List dRange)) (a1 : (List dWrite)) : execFn G23 impl_Touches_loops Try.f81 [.lst tRange a0, .lst tWrite a1] [] = impl_Touches_k a0 a1 (fun (y : Bool) => some ⟨.ret, [.bool y], []⟩) := (impl_Touches_x a0 a1).trans (by rw [impl_Touches_e])

theorem impl_Touches_l : LoopsOk G23 ⟨0, 27, impl_Touches_loops⟩ (Try.f81.body.getD .skip) :=
  loopsOk_of (ids := [2, 0]) (by kernel_rfl) (by kernel_rfl) ⟨impl_Touches_lo2, ⟨impl_Touches_lo0, trivial⟩⟩

theorem impl_Touches_c : Contract Try.prog 81 impl_Touches_g := by
  refine told G23_ok follows Try.func81 (c := Try.f81.body.getD .skip) (by kernel_rfl) ?_
  intro args s k r hk
  unfold impl_Touches_g at hk
  rcases onPats_inv hk with ⟨p, q, rfl, rfl⟩ | hk
  · exact ⟨impl_Touches_loops, impl_Touches_q p.1 p.2.1, impl_Touches_y p.1 p.2.1, impl_Touches_l⟩
  cases hk

def G24 : Glob := G23.add 81 impl_Touches_g

theorem G24_ok : GlobOk Try.prog G24 := G23_ok.add ⟨Try.f81, Try.func81, by kernel_rfl, by kernel_rfl⟩ impl_Touches_c

/-! ### loop.example/g00327/impl.Ahead -/

def impl_Ahead_loops : Nat → Option LoopSpec
  | _ => none

theorem impl_Ahead_x (a0 : Int) (a1 : Int) (a2 : Int) (a3 : Int) (a4 : (List dRange)) (a5 : (List dWrite)) (a6 : Bool) (a7 : ByteArray) (a8 : Int) (a9 : Int) (a10 : Int) (a11 : Int) (a12 : (List dRange)) (a13 : (List dWrite)) (a14 : Bool) (a15 : ByteArray) : execFn G24 impl_Ahead_loops Try.f23 [.agg [.int .i64 a0, .int .i64 a1, .int .i64 a2, .int .i64 a3, .lst tRange a4, .lst tWrite a5, .bool a6, .str a7], .agg [.int .i64 a8, .int .i64 a9, .int .i64 a10, .int .i64 a11, .lst tRange a12, .lst tWrite a13, .bool a14, .str a15]] [] = impl_Ahead_d (a0, (a1, (a2, (a3, (a4, (a5, (a6, a7))))))) (a8, (a9, (a10, (a11, (a12, (a13, (a14, a15))))))) (fun (y : Bool) => some ⟨.ret, [.bool y], []⟩) := by kernel_rfl

theorem impl_Ahead_y (a0 : Int) (a1 : Int) (a2 : Int) (a3 : Int) (a4 : (List dRange)) (a5 : (List dWrite)) (a6 : Bool) (a7 : ByteArray) (a8 : Int) (a9 : Int) (a10 : Int) (a11 : Int) (a12 : (List dRange)) (a13 : (List dWrite)) (a14 : Bool) (a15 : ByteArray) : execFn G24 impl_Ahead_loops Try.f23 [.agg [.int .i64 a0, .int .i64 a1, .int .i64 a2, .int .i64 a3, .lst tRange a4, .lst tWrite a5, .bool a6, .str a7], .agg [.int .i64 a8, .int .i64 a9, .int .i64 a10, .int .i64 a11, .lst tRange a12, .lst tWrite a13, .bool a14, .str a15]] [] = impl_Ahead_k (a0, (a1, (a2, (a3, (a4, (a5, (a6, a7))))))) (a8, (a9, (a10, (a11, (a12, (a13, (a14, a15))))))) (fun (y : Bool) => some ⟨.ret, [.bool y], []⟩) := (impl_Ahead_x a0 a1 a2 a3 a4 a5 a6 a7 a8 a9 a10 a11 a12 a13 a14 a15).trans (by rw [impl_Ahead_e])

theorem impl_Ahead_l : LoopsOk G24 ⟨0, 15, impl_Ahead_loops⟩ (Try.f23.body.getD .skip) :=
  loopsOk_of (ids := []) (by kernel_rfl) (by kernel_rfl) trivial

theorem impl_Ahead_c : Contract Try.prog 23 impl_Ahead_g := by
  refine told G24_ok follows Try.func23 (c := Try.f23.body.getD .skip) (by kernel_rfl) ?_
  intro args s k r hk
  unfold impl_Ahead_g at hk
  rcases onPats_inv hk with ⟨p, q, rfl, rfl⟩ | hk
  · exact ⟨impl_Ahead_loops, impl_Ahead_q p.1.1 p.1.2.1 p.1.2.2.1 p.1.2.2.2.1 p.1.2.2.2.2.1 p.1.2.2.2.2.2.1 p.1.2.2.2.2.2.2.1 p.1.2.2.2.2.2.2.2.1 p.2.1.1 p.2.1.2.1 p.2.1.2.2.1 p.2.1.2.2.2.1 p.2.1.2.2.2.2.1 p.2.1.2.2.2.2.2.1 p.2.1.2.2.2.2.2.2.1 p.2.1.2.2.2.2.2.2.2.1, impl_Ahead_y p.1.1 p.1.2.1 p.1.2.2.1 p.1.2.2.2.1 p.1.2.2.2.2.1 p.1.2.2.2.2.2.1 p.1.2.2.2.2.2.2.1 p.1.2.2.2.2.2.2.2.1 p.2.1.1 p.2.1.2.1 p.2.1.2.2.1 p.2.1.2.2.2.1 p.2.1.2.2.2.2.1 p.2.1.2.2.2.2.2.1 p.2.1.2.2.2.2.2.2.1 p.2.1.2.2.2.2.2.2.2.1, impl_Ahead_l⟩
  cases hk

def G25 : Glob := G24.add 23 impl_Ahead_g

theorem G25_ok : GlobOk Try.prog G25 := G24_ok.add ⟨Try.f23, Try.func23, by kernel_rfl, by kernel_rfl⟩ impl_Ahead_c

/-! ### loop.example/g00327/spec.InRange -/

def spec_InRange_loops : Nat → Option LoopSpec
  | _ => none

theorem spec_InRange_x (a0 : ByteArray) (a1 : ByteArray) (a2 : ByteArray) : execFn G25 spec_InRange_loops Try.f82 [.agg [.str a0, .str a1], .str a2] [] = spec_InRange_d (a0, a1) a2 (fun (y : Bool) => some ⟨.ret, [.bool y], []⟩) := by kernel_rfl

theorem spec_InRange_y (a0 : ByteArray) (a1 : ByteArray) (a2 : ByteArray) : execFn G25 spec_InRange_loops Try.f82 [.agg [.str a0, .str a1], .str a2] [] = spec_InRange_k (a0, a1) a2 (fun (y : Bool) => some ⟨.ret, [.bool y], []⟩) := (spec_InRange_x a0 a1 a2).trans (by rw [spec_InRange_e])

theorem spec_InRange_l : LoopsOk G25 ⟨0, 15, spec_InRange_loops⟩ (Try.f82.body.getD .skip) :=
  loopsOk_of (ids := []) (by kernel_rfl) (by kernel_rfl) trivial

theorem spec_InRange_c : Contract Try.prog 82 spec_InRange_g := by
  refine told G25_ok follows Try.func82 (c := Try.f82.body.getD .skip) (by kernel_rfl) ?_
  intro args s k r hk
  unfold spec_InRange_g at hk
  rcases onPats_inv hk with ⟨p, q, rfl, rfl⟩ | hk
  · exact ⟨spec_InRange_loops, spec_InRange_q p.1.1 p.1.2.1 p.2.1, spec_InRange_y p.1.1 p.1.2.1 p.2.1, spec_InRange_l⟩
  cases hk

def G26 : Glob := G25.add 82 spec_InRange_g

theorem G26_ok : GlobOk Try.prog G26 := G25_ok.add ⟨Try.f82, Try.func82, by kernel_rfl, by kernel_rfl⟩ spec_InRange_c

/-! ### loop.example/g00327/spec.Touches -/

def spec_Touches_loops : Nat → Option LoopSpec
  | 2 => some ⟨[0, 1, 4, 5, 6], [], fun vals st k => onPats [.lst tRange, .lst tWrite, .bool, .int .i64, .int .i64] [] vals st (fun p q => loopK spec_Touches_b2 Fuel (p.1, p.2.1, p.2.2.1, p.2.2.2.1, p.2.2.2.2.1) (Sum.elim (fun z => k .ret [.lst tRange z.1, .lst tWrite z.2.1, .bool z.2.2.1, .int .i64 z.2.2.2.1, .int .i64 z.2.2.2.2] []) (fun z => k (.exit 2) [.lst tRange z.1, .lst tWrite z.2.1, .bool z.2.2.1, .int .i64 z.2.2.2.1, .int .i64 z.2.2.2.2] [])))
      (none)⟩
  | 0 => some ⟨[0, 1, 4, 5], [], fun vals st k => onPats [.lst tRange, .lst tWrite, .bool, .int .i64] [] vals st (fun p q => loopK spec_Touches_b0 Fuel (p.1, p.2.1, p.2.2.1, p.2.2.2.1) (Sum.elim (fun z => k (.exit 0) [.lst tRange z.1, .lst tWrite z.2.1, .bool z.2.2.1, .int .i64 z.2.2.2] []) (fun z => k .ret [.lst tRange z.1, .lst tWrite z.2.1, .bool z.2.2.1, .int .i64 z.2.2.2] [])))
      (none)⟩
  | _ => none

def spec_Touches_v2 : ((List dRange) × (List dWrite) × Bool × Int × Int) → List AV := (fun x => [.lst tRange x.1, .lst tWrite x.2.1, .bool x.2.2.1, .int .i64 x.2.2.2.1, .int .i64 x.2.2.2.2])
def spec_Touches_s2 : ((List dRange) × (List dWrite) × Bool × Int × Int) → St := (fun x => [])
def spec_Touches_e2 : (((List dRange) × (List dWrite) × Bool × Int × Int) ⊕ ((List dRange) × (List dWrite) × Bool × Int × Int)) → Out × List AV × St := (Sum.elim (fun z => (.ret, [.lst tRange z.1, .lst tWrite z.2.1, .bool z.2.2.1, .int .i64 z.2.2.2.1, .int .i64 z.2.2.2.2], [])) (fun z => ((.exit 2), [.lst tRange z.1, .lst tWrite z.2.1, .bool z.2.2.1, .int .i64 z.2.2.2.1, .int .i64 z.2.2.2.2], [])))

theorem spec_Touches_bx2 (x : ((List dRange) × (List dWrite) × Bool × Int × Int)) : exec G26 ⟨0, 29, spec_Touches_loops⟩ (loopBody Try.f24 2) (bodyK ⟨0, 29, spec_Touches_loops⟩ [0, 1, 4, 5, 6] []) (setEs (deads 29) [0, 1, 4, 5, 6] (spec_Touches_v2 x)) (spec_Touches_s2 x) = spec_Touches_b2 x (Sum.elim (fun y => some ⟨.norm, spec_Touches_v2 y, spec_Touches_s2 y⟩) fun z => some ⟨(spec_Touches_e2 z).1, (spec_Touches_e2 z).2.1, (spec_Touches_e2 z).2.2⟩) := by
  kernel_rfl

theorem spec_Touches_lo2 : ∀ sp, (spec_Touches_loops 2) = some sp → LoopOk G26 ⟨0, 29, spec_Touches_loops⟩ sp (loopBody Try.f24 2) := by
  intro sp hsp vals st k r h
  cases hsp
  dsimp only at h
  rcases onPats_inv2 h with ⟨p, q, rfl, rfl, h⟩ | h
  · exact loop_runs2 spec_Touches_bp2 spec_Touches_v2 spec_Touches_s2 spec_Touches_e2 (fun z => by rcases z with z | z <;> (intro h; cases h)) spec_Touches_bx2 Fuel (p.1, p.2.1, p.2.2.1, p.2.2.2.1, p.2.2.2.2.1) _ k r (fun z => by rcases z with z | z <;> rfl) h
  cases h

def spec_Touches_v0 : ((List dRange) × (List dWrite) × Bool × Int) → List AV := (fun x => [.lst tRange x.1, .lst tWrite x.2.1, .bool x.2.2.1, .int .i64 x.2.2.2])
def spec_Touches_s0 : ((List dRange) × (List dWrite) × Bool × Int) → St := (fun x => [])
def spec_Touches_e0 : (((List dRange) × (List dWrite) × Bool × Int) ⊕ ((List dRange) × (List dWrite) × Bool × Int)) → Out × List AV × St := (Sum.elim (fun z => ((.exit 0), [.lst tRange z.1, .lst tWrite z.2.1, .bool z.2.2.1, .int .i64 z.2.2.2], [])) (fun z => (.ret, [.lst tRange z.1, .lst tWrite z.2.1, .bool z.2.2.1, .int .i64 z.2.2.2], [])))

theorem spec_Touches_bx0 (x : ((List dRange) × (List dWrite) × Bool × Int)) : exec G26 ⟨0, 29, spec_Touches_loops⟩ (loopBody Try.f24 0) (bodyK ⟨0, 29, spec_Touches_loops⟩ [0, 1, 4, 5] []) (setEs (deads 29) [0, 1, 4, 5] (spec_Touches_v0 x)) (spec_Touches_s0 x) = spec_Touches_b0 x (Sum.elim (fun y => some ⟨.norm, spec_Touches_v0 y, spec_Touches_s0 y⟩) fun z => some ⟨(spec_Touches_e0 z).1, (spec_Touches_e0 z).2.1, (spec_Touches_e0 z).2.2⟩) := by
  kernel_rfl

theorem spec_Touches_lo0 : ∀ sp, (spec_Touches_loops 0) = some sp → LoopOk G26 ⟨0, 29, spec_Touches_loops⟩ sp (loopBody Try.f24 0) := by
  intro sp hsp vals st k r h
  cases hsp
  dsimp only at h
  rcases onPats_inv2 h with ⟨p, q, rfl, rfl, h⟩ | h
  · exact loop_runs2 spec_Touches_bp0 spec_Touches_v0 spec_Touches_s0 spec_Touches_e0 (fun z => by rcases z with z | z <;> (intro h; cases h)) spec_Touches_bx0 Fuel (p.1, p.2.1, p.2.2.1, p.2.2.2.1) _ k r (fun z => by rcases z with z | z <;> rfl) h
  cases h

theorem spec_Touches_x (a0 : (List dRange)) (a1 : (List dWrite)) : execFn G26 spec_Touches_loops Try.f24 [.lst tRange a0, .lst tWrite a1] [] = spec_Touches_d a0 a1 (fun (y : Bool) => some ⟨.ret, [.bool y], []⟩) := by kernel_rfl

theorem spec_Touches_y (a0 : (List dRange)) (a1 : (List dWrite)) : execFn G26 spec_Touches_loops Try.f24 [.lst tRange a0, .lst tWrite a1] [] = spec_Touches_k a0 a1 (fun (y : Bool) => some ⟨.ret, [.bool y], []⟩) := (spec_Touches_x a0 a1).trans (by rw [spec_Touches_e])

theorem spec_Touches_l : LoopsOk G26 ⟨0, 29, spec_Touches_loops⟩ (Try.f24.body.getD .skip) :=
  loopsOk_of (ids := [2, 0]) (by kernel_rfl) (by kernel_rfl) ⟨spec_Touches_lo2, ⟨spec_Touches_lo0, trivial⟩⟩

theorem spec_Touches_c : Contract Try.prog 24 spec_Touches_g := by
  refine told G26_ok follows Try.func24 (c := Try.f24.body.getD .skip) (by kernel_rfl) ?_
  intro args s k r hk
  unfold spec_Touches_g at hk
  rcases onPats_inv hk with ⟨p, q, rfl, rfl⟩ | hk
  · exact ⟨spec_Touches_loops, spec_Touches_q p.1 p.2.1, spec_Touches_y p.1 p.2.1, spec_Touches_l⟩
  cases hk

def G27 : Glob := G26.add 24 spec_Touches_g

theorem G27_ok : GlobOk Try.prog G27 := G26_ok.add ⟨Try.f24, Try.func24, by kernel_rfl, by kernel_rfl⟩ spec_Touches_c

/-! ### loop.example/g00327/spec.Beside -/

def spec_Beside_loops : Nat → Option LoopSpec
  | _ => none

theorem spec_Beside_x (a0 : Int) (a1 : Int) (a2 : Int) (a3 : Int) (a4 : (List dRange)) (a5 : (List dWrite)) (a6 : Bool) (a7 : ByteArray) (a8 : Int) (a9 : Int) (a10 : Int) (a11 : Int) (a12 : (List dRange)) (a13 : (List dWrite)) (a14 : Bool) (a15 : ByteArray) : execFn G27 spec_Beside_loops Try.f16 [.agg [.int .i64 a0, .int .i64 a1, .int .i64 a2, .int .i64 a3, .lst tRange a4, .lst tWrite a5, .bool a6, .str a7], .agg [.int .i64 a8, .int .i64 a9, .int .i64 a10, .int .i64 a11, .lst tRange a12, .lst tWrite a13, .bool a14, .str a15]] [] = spec_Beside_d (a0, (a1, (a2, (a3, (a4, (a5, (a6, a7))))))) (a8, (a9, (a10, (a11, (a12, (a13, (a14, a15))))))) (fun (y : Bool) => some ⟨.ret, [.bool y], []⟩) := by kernel_rfl

theorem spec_Beside_y (a0 : Int) (a1 : Int) (a2 : Int) (a3 : Int) (a4 : (List dRange)) (a5 : (List dWrite)) (a6 : Bool) (a7 : ByteArray) (a8 : Int) (a9 : Int) (a10 : Int) (a11 : Int) (a12 : (List dRange)) (a13 : (List dWrite)) (a14 : Bool) (a15 : ByteArray) : execFn G27 spec_Beside_loops Try.f16 [.agg [.int .i64 a0, .int .i64 a1, .int .i64 a2, .int .i64 a3, .lst tRange a4, .lst tWrite a5, .bool a6, .str a7], .agg [.int .i64 a8, .int .i64 a9, .int .i64 a10, .int .i64 a11, .lst tRange a12, .lst tWrite a13, .bool a14, .str a15]] [] = spec_Beside_k (a0, (a1, (a2, (a3, (a4, (a5, (a6, a7))))))) (a8, (a9, (a10, (a11, (a12, (a13, (a14, a15))))))) (fun (y : Bool) => some ⟨.ret, [.bool y], []⟩) := (spec_Beside_x a0 a1 a2 a3 a4 a5 a6 a7 a8 a9 a10 a11 a12 a13 a14 a15).trans (by rw [spec_Beside_e])

theorem spec_Beside_l : LoopsOk G27 ⟨0, 32, spec_Beside_loops⟩ (Try.f16.body.getD .skip) :=
  loopsOk_of (ids := []) (by kernel_rfl) (by kernel_rfl) trivial

theorem spec_Beside_c : Contract Try.prog 16 spec_Beside_g := by
  refine told G27_ok follows Try.func16 (c := Try.f16.body.getD .skip) (by kernel_rfl) ?_
  intro args s k r hk
  unfold spec_Beside_g at hk
  rcases onPats_inv hk with ⟨p, q, rfl, rfl⟩ | hk
  · exact ⟨spec_Beside_loops, spec_Beside_q p.1.1 p.1.2.1 p.1.2.2.1 p.1.2.2.2.1 p.1.2.2.2.2.1 p.1.2.2.2.2.2.1 p.1.2.2.2.2.2.2.1 p.1.2.2.2.2.2.2.2.1 p.2.1.1 p.2.1.2.1 p.2.1.2.2.1 p.2.1.2.2.2.1 p.2.1.2.2.2.2.1 p.2.1.2.2.2.2.2.1 p.2.1.2.2.2.2.2.2.1 p.2.1.2.2.2.2.2.2.2.1, spec_Beside_y p.1.1 p.1.2.1 p.1.2.2.1 p.1.2.2.2.1 p.1.2.2.2.2.1 p.1.2.2.2.2.2.1 p.1.2.2.2.2.2.2.1 p.1.2.2.2.2.2.2.2.1 p.2.1.1 p.2.1.2.1 p.2.1.2.2.1 p.2.1.2.2.2.1 p.2.1.2.2.2.2.1 p.2.1.2.2.2.2.2.1 p.2.1.2.2.2.2.2.2.1 p.2.1.2.2.2.2.2.2.2.1, spec_Beside_l⟩
  cases hk

def G28 : Glob := G27.add 16 spec_Beside_g

theorem G28_ok : GlobOk Try.prog G28 := G27_ok.add ⟨Try.f16, Try.func16, by kernel_rfl, by kernel_rfl⟩ spec_Beside_c

/-! ### loop.example/g00327/spec.Ahead -/

def spec_Ahead_loops : Nat → Option LoopSpec
  | _ => none

theorem spec_Ahead_x (a0 : Int) (a1 : Int) (a2 : Int) (a3 : Int) (a4 : (List dRange)) (a5 : (List dWrite)) (a6 : Bool) (a7 : ByteArray) (a8 : Int) (a9 : Int) (a10 : Int) (a11 : Int) (a12 : (List dRange)) (a13 : (List dWrite)) (a14 : Bool) (a15 : ByteArray) : execFn G28 spec_Ahead_loops Try.f25 [.agg [.int .i64 a0, .int .i64 a1, .int .i64 a2, .int .i64 a3, .lst tRange a4, .lst tWrite a5, .bool a6, .str a7], .agg [.int .i64 a8, .int .i64 a9, .int .i64 a10, .int .i64 a11, .lst tRange a12, .lst tWrite a13, .bool a14, .str a15]] [] = spec_Ahead_d (a0, (a1, (a2, (a3, (a4, (a5, (a6, a7))))))) (a8, (a9, (a10, (a11, (a12, (a13, (a14, a15))))))) (fun (y : Bool) => some ⟨.ret, [.bool y], []⟩) := by kernel_rfl

theorem spec_Ahead_y (a0 : Int) (a1 : Int) (a2 : Int) (a3 : Int) (a4 : (List dRange)) (a5 : (List dWrite)) (a6 : Bool) (a7 : ByteArray) (a8 : Int) (a9 : Int) (a10 : Int) (a11 : Int) (a12 : (List dRange)) (a13 : (List dWrite)) (a14 : Bool) (a15 : ByteArray) : execFn G28 spec_Ahead_loops Try.f25 [.agg [.int .i64 a0, .int .i64 a1, .int .i64 a2, .int .i64 a3, .lst tRange a4, .lst tWrite a5, .bool a6, .str a7], .agg [.int .i64 a8, .int .i64 a9, .int .i64 a10, .int .i64 a11, .lst tRange a12, .lst tWrite a13, .bool a14, .str a15]] [] = spec_Ahead_k (a0, (a1, (a2, (a3, (a4, (a5, (a6, a7))))))) (a8, (a9, (a10, (a11, (a12, (a13, (a14, a15))))))) (fun (y : Bool) => some ⟨.ret, [.bool y], []⟩) := (spec_Ahead_x a0 a1 a2 a3 a4 a5 a6 a7 a8 a9 a10 a11 a12 a13 a14 a15).trans (by rw [spec_Ahead_e])

theorem spec_Ahead_l : LoopsOk G28 ⟨0, 15, spec_Ahead_loops⟩ (Try.f25.body.getD .skip) :=
  loopsOk_of (ids := []) (by kernel_rfl) (by kernel_rfl) trivial

theorem spec_Ahead_c : Contract Try.prog 25 spec_Ahead_g := by
  refine told G28_ok follows Try.func25 (c := Try.f25.body.getD .skip) (by kernel_rfl) ?_
  intro args s k r hk
  unfold spec_Ahead_g at hk
  rcases onPats_inv hk with ⟨p, q, rfl, rfl⟩ | hk
  · exact ⟨spec_Ahead_loops, spec_Ahead_q p.1.1 p.1.2.1 p.1.2.2.1 p.1.2.2.2.1 p.1.2.2.2.2.1 p.1.2.2.2.2.2.1 p.1.2.2.2.2.2.2.1 p.1.2.2.2.2.2.2.2.1 p.2.1.1 p.2.1.2.1 p.2.1.2.2.1 p.2.1.2.2.2.1 p.2.1.2.2.2.2.1 p.2.1.2.2.2.2.2.1 p.2.1.2.2.2.2.2.2.1 p.2.1.2.2.2.2.2.2.2.1, spec_Ahead_y p.1.1 p.1.2.1 p.1.2.2.1 p.1.2.2.2.1 p.1.2.2.2.2.1 p.1.2.2.2.2.2.1 p.1.2.2.2.2.2.2.1 p.1.2.2.2.2.2.2.2.1 p.2.1.1 p.2.1.2.1 p.2.1.2.2.1 p.2.1.2.2.2.1 p.2.1.2.2.2.2.1 p.2.1.2.2.2.2.2.1 p.2.1.2.2.2.2.2.2.1 p.2.1.2.2.2.2.2.2.2.1, spec_Ahead_l⟩
  cases hk

def G29 : Glob := G28.add 25 spec_Ahead_g

theorem G29_ok : GlobOk Try.prog G29 := G28_ok.add ⟨Try.f25, Try.func25, by kernel_rfl, by kernel_rfl⟩ spec_Ahead_c

/-! ### loop.example/g00327/laws.FnEdges -/

def laws_FnEdges_loops : Nat → Option LoopSpec
  | 5000006 => some ⟨[0, 2, 3, 4, 5, 6], [], fun vals st k => onPats [.lst (.int .u8), .bool, .bp 0 0, .bp 1 0, .bool, .bool] [.box [.int .i64, .int .i64, .int .i64, .int .i64, .own 2, .own 3, .bool, .str], .box [.int .i64, .int .i64, .int .i64, .int .i64, .own 4, .own 5, .bool, .str], .arr tRange, .arr tWrite, .arr tRange, .arr tWrite] vals st (fun p q => laws_FnEdges_j5000006 (p.1, p.2.1, p.2.2.2.2.1, p.2.2.2.2.2.1, q.1.1, q.1.2.1, q.1.2.2.1, q.1.2.2.2.1, q.1.2.2.2.2.2.2.1, q.1.2.2.2.2.2.2.2.1, q.2.1.1, q.2.1.2.1, q.2.1.2.2.1, q.2.1.2.2.2.1, q.2.1.2.2.2.2.2.2.1, q.2.1.2.2.2.2.2.2.2.1, q.2.2.1, q.2.2.2.1, q.2.2.2.2.1, q.2.2.2.2.2.1) (fun z => k .ret [.lst (.int .u8) z.1, .bool z.2.1, .bp 0 0, .bp 1 0, .bool z.2.2.1, .bool z.2.2.2.1] [.box [.int .i64 z.2.2.2.2.1, .int .i64 z.2.2.2.2.2.1, .int .i64 z.2.2.2.2.2.2.1, .int .i64 z.2.2.2.2.2.2.2.1, .own 2, .own 3, .bool z.2.2.2.2.2.2.2.2.1, .str z.2.2.2.2.2.2.2.2.2.1], .box [.int .i64 z.2.2.2.2.2.2.2.2.2.2.1, .int .i64 z.2.2.2.2.2.2.2.2.2.2.2.1, .int .i64 z.2.2.2.2.2.2.2.2.2.2.2.2.1, .int .i64 z.2.2.2.2.2.2.2.2.2.2.2.2.2.1, .own 4, .own 5, .bool z.2.2.2.2.2.2.2.2.2.2.2.2.2.2.1, .str z.2.2.2.2.2.2.2.2.2.2.2.2.2.2.2.1], .arr tRange z.2.2.2.2.2.2.2.2.2.2.2.2.2.2.2.2.1, .arr tWrite z.2.2.2.2.2.2.2.2.2.2.2.2.2.2.2.2.2.1, .arr tRange z.2.2.2.2.2.2.2.2.2.2.2.2.2.2.2.2.2.2.1, .arr tWrite z.2.2.2.2.2.2.2.2.2.2.2.2.2.2.2.2.2.2.2]))
      (none)⟩
  | _ => none

def laws_FnEdges_jv5000006 : ((List Int) × Bool × Bool × Bool × Int × Int × Int × Int × Bool × ByteArray × Int × Int × Int × Int × Bool × ByteArray × (List dRange) × (List dWrite) × (List dRange) × (List dWrite)) → List AV := (fun x => [.lst (.int .u8) x.1, .bool x.2.1, .bp 0 0, .bp 1 0, .bool x.2.2.1, .bool x.2.2.2.1])
def laws_FnEdges_js5000006 : ((List Int) × Bool × Bool × Bool × Int × Int × Int × Int × Bool × ByteArray × Int × Int × Int × Int × Bool × ByteArray × (List dRange) × (List dWrite) × (List dRange) × (List dWrite)) → St := (fun x => [.box [.int .i64 x.2.2.2.2.1, .int .i64 x.2.2.2.2.2.1, .int .i64 x.2.2.2.2.2.2.1, .int .i64 x.2.2.2.2.2.2.2.1, .own 2, .own 3, .bool x.2.2.2.2.2.2.2.2.1, .str x.2.2.2.2.2.2.2.2.2.1], .box [.int .i64 x.2.2.2.2.2.2.2.2.2.2.1, .int .i64 x.2.2.2.2.2.2.2.2.2.2.2.1, .int .i64 x.2.2.2.2.2.2.2.2.2.2.2.2.1, .int .i64 x.2.2.2.2.2.2.2.2.2.2.2.2.2.1, .own 4, .own 5, .bool x.2.2.2.2.2.2.2.2.2.2.2.2.2.2.1, .str x.2.2.2.2.2.2.2.2.2.2.2.2.2.2.2.1], .arr tRange x.2.2.2.2.2.2.2.2.2.2.2.2.2.2.2.2.1, .arr tWrite x.2.2.2.2.2.2.2.2.2.2.2.2.2.2.2.2.2.1, .arr tRange x.2.2.2.2.2.2.2.2.2.2.2.2.2.2.2.2.2.2.1, .arr tWrite x.2.2.2.2.2.2.2.2.2.2.2.2.2.2.2.2.2.2.2])
def laws_FnEdges_je5000006 : ((List Int) × Bool × Bool × Bool × Int × Int × Int × Int × Bool × ByteArray × Int × Int × Int × Int × Bool × ByteArray × (List dRange) × (List dWrite) × (List dRange) × (List dWrite)) → Out × List AV × St := (fun z => (.ret, [.lst (.int .u8) z.1, .bool z.2.1, .bp 0 0, .bp 1 0, .bool z.2.2.1, .bool z.2.2.2.1], [.box [.int .i64 z.2.2.2.2.1, .int .i64 z.2.2.2.2.2.1, .int .i64 z.2.2.2.2.2.2.1, .int .i64 z.2.2.2.2.2.2.2.1, .own 2, .own 3, .bool z.2.2.2.2.2.2.2.2.1, .str z.2.2.2.2.2.2.2.2.2.1], .box [.int .i64 z.2.2.2.2.2.2.2.2.2.2.1, .int .i64 z.2.2.2.2.2.2.2.2.2.2.2.1, .int .i64 z.2.2.2.2.2.2.2.2.2.2.2.2.1, .int .i64 z.2.2.2.2.2.2.2.2.2.2.2.2.2.1, .own 4, .own 5, .bool z.2.2.2.2.2.2.2.2.2.2.2.2.2.2.1, .str z.2.2.2.2.2.2.2.2.2.2.2.2.2.2.2.1], .arr tRange z.2.2.2.2.2.2.2.2.2.2.2.2.2.2.2.2.1, .arr tWrite z.2.2.2.2.2.2.2.2.2.2.2.2.2.2.2.2.2.1, .arr tRange z.2.2.2.2.2.2.2.2.2.2.2.2.2.2.2.2.2.2.1, .arr tWrite z.2.2.2.2.2.2.2.2.2.2.2.2.2.2.2.2.2.2.2]))

theorem laws_FnEdges_jx5000006 (x : ((List Int) × Bool × Bool × Bool × Int × Int × Int × Int × Bool × ByteArray × Int × Int × Int × Int × Bool × ByteArray × (List dRange) × (List dWrite) × (List dRange) × (List dWrite))) : exec G29 ⟨0, 95, laws_FnEdges_loops⟩ (loopBody Try.f4 5000006) (bodyK ⟨0, 95, laws_FnEdges_loops⟩ [0, 2, 3, 4, 5, 6] []) (setEs (deads 95) [0, 2, 3, 4, 5, 6] (laws_FnEdges_jv5000006 x)) (laws_FnEdges_js5000006 x) = laws_FnEdges_j5000006 x (fun z => some ⟨(laws_FnEdges_je5000006 z).1, (laws_FnEdges_je5000006 z).2.1, (laws_FnEdges_je5000006 z).2.2⟩) := by
  kernel_rfl

theorem laws_FnEdges_lo5000006 : ∀ sp, (laws_FnEdges_loops 5000006) = some sp → CutOk G29 ⟨0, 95, laws_FnEdges_loops⟩ sp (loopBody Try.f4 5000006) := by
  intro sp hsp vals st k r h
  cases hsp
  dsimp only at h
  rcases onPats_inv2 h with ⟨p, q, rfl, rfl, h⟩ | h
  · exact cut_runs laws_FnEdges_jp5000006 laws_FnEdges_jv5000006 laws_FnEdges_js5000006 laws_FnEdges_je5000006 laws_FnEdges_jx5000006 (p.1, p.2.1, p.2.2.2.2.1, p.2.2.2.2.2.1, q.1.1, q.1.2.1, q.1.2.2.1, q.1.2.2.2.1, q.1.2.2.2.2.2.2.1, q.1.2.2.2.2.2.2.2.1, q.2.1.1, q.2.1.2.1, q.2.1.2.2.1, q.2.1.2.2.2.1, q.2.1.2.2.2.2.2.2.1, q.2.1.2.2.2.2.2.2.2.1, q.2.2.1, q.2.2.2.1, q.2.2.2.2.1, q.2.2.2.2.2.1) _ k r (fun z => rfl) h
  cases h

theorem laws_FnEdges_x (a0 : (List Int)) : execFn G29 laws_FnEdges_loops Try.f4 [.lst (.int .u8) a0] [] = laws_FnEdges_d a0 (fun (y : Bool) => some ⟨.ret, [.bool y], []⟩) := by kernel_rfl

theorem laws_FnEdges_y (a0 : (List Int)) : execFn G29 laws_FnEdges_loops Try.f4 [.lst (.int .u8) a0] [] = laws_FnEdges_k a0 (fun (y : Bool) => some ⟨.ret, [.bool y], []⟩) := (laws_FnEdges_x a0).trans (by rw [laws_FnEdges_e])

theorem laws_FnEdges_l : LoopsOk G29 ⟨0, 95, laws_FnEdges_loops⟩ (Try.f4.body.getD .skip) :=
  loopsOk_of (ids := [5000006]) (by kernel_rfl) (by kernel_rfl) ⟨laws_FnEdges_lo5000006, trivial⟩

theorem laws_FnEdges_c : Contract Try.prog 4 laws_FnEdges_g := by
  refine told G29_ok follows Try.func4 (c := Try.f4.body.getD .skip) (by kernel_rfl) ?_
  intro args s k r hk
  unfold laws_FnEdges_g at hk
  rcases onPats_inv hk with ⟨p, q, rfl, rfl⟩ | hk
  · exact ⟨laws_FnEdges_loops, laws_FnEdges_q p.1, laws_FnEdges_y p.1, laws_FnEdges_l⟩
  cases hk

def G30 : Glob := G29.add 4 laws_FnEdges_g

theorem G30_ok : GlobOk Try.prog G30 := G29_ok.add ⟨Try.f4, Try.func4, by kernel_rfl, by kernel_rfl⟩ laws_FnEdges_c

end

end Go.VE
