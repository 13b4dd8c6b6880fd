/- Each function told by its native program; written by gen.py. -/

import Derived.Test.YtbedbcnmfoildaaFnDangersS0

namespace Go.VE

open Go.Proofs

noncomputable section

set_option linter.unusedVariables false
set_option linter.unusedSimpArgs false
set_option maxRecDepth 100000




def laws_big_loops : Nat → Option LoopSpec
  | _ => none

theorem laws_big_y (a0 : (List Int)) : execFn G0 laws_big_loops Try.f25 [.lst (.int .u8) a0] [] = laws_big_k a0 (fun (y : Bool) => some ⟨.ret, [.bool y], []⟩) := by rw [laws_big_e]; kernel_rfl

theorem laws_big_l : LoopsOk G0 ⟨0, 6, laws_big_loops⟩ (Try.f25.body.getD .skip) :=
  loopsOk_of (ids := []) (by kernel_rfl) (by kernel_rfl) trivial

theorem laws_big_c : Contract Try.prog 25 laws_big_g := by
  refine told G0_ok follows Try.func25 (c := Try.f25.body.getD .skip) (by kernel_rfl) ?_
  intro args s k r hk
  unfold laws_big_g at hk
  rcases onPats_inv hk with ⟨p, q, rfl, rfl⟩ | hk
  · exact ⟨laws_big_loops, laws_big_q p.1, laws_big_y p.1, laws_big_l⟩
  cases hk

def G1 : Glob := G0.add 25 laws_big_g

theorem G1_ok : GlobOk Try.prog G1 := G0_ok.add ⟨Try.f25, Try.func25, by kernel_rfl, by kernel_rfl⟩ laws_big_c



def spec_l01New_loops : Nat → Option LoopSpec
  | 6000001 => some ⟨[0, 3, 4], [], fun vals st k => onPats [.lst (.int .u8), .int .i64, .int .i64] [] vals st (fun p q => spec_l01New_j6000001 (p.1, p.2.1, p.2.2.1) (fun z => k .norm [.lst (.int .u8) z.1, .int .i64 z.2.1, .int .i64 z.2.2] []))
      (none)⟩
  | 0 => some ⟨[0, 3, 4], [], fun vals st k => onPats [.lst (.int .u8), .int .i64, .int .i64] [] vals st (fun p q => loopK spec_l01New_b0 Fuel (p.1, p.2.1, p.2.2.1) (fun z => k (.exit 0) [.lst (.int .u8) z.1, .int .i64 z.2.1, .int .i64 z.2.2] []))
      (none)⟩
  | _ => none

def spec_l01New_jv6000001 : ((List Int) × Int × Int) → List AV := (fun x => [.lst (.int .u8) x.1, .int .i64 x.2.1, .int .i64 x.2.2])
def spec_l01New_js6000001 : ((List Int) × Int × Int) → St := (fun x => [])
def spec_l01New_je6000001 : ((List Int) × Int × Int) → Out × List AV × St := (fun z => (.norm, [.lst (.int .u8) z.1, .int .i64 z.2.1, .int .i64 z.2.2], []))

theorem spec_l01New_jx6000001 (x : ((List Int) × Int × Int)) : exec G1 ⟨0, 32, spec_l01New_loops⟩ (loopBody Try.f95 6000001) (bodyK ⟨0, 32, spec_l01New_loops⟩ [0, 3, 4] []) (setEs (deads 32) [0, 3, 4] (spec_l01New_jv6000001 x)) (spec_l01New_js6000001 x) = spec_l01New_j6000001 x (fun z => some ⟨(spec_l01New_je6000001 z).1, (spec_l01New_je6000001 z).2.1, (spec_l01New_je6000001 z).2.2⟩) := by
  kernel_rfl

theorem spec_l01New_lo6000001 : ∀ sp, (spec_l01New_loops 6000001) = some sp → CutOk G1 ⟨0, 32, spec_l01New_loops⟩ sp (loopBody Try.f95 6000001) := by
  intro sp hsp vals st k r h
  cases hsp
  dsimp only at h
  rcases onPats_inv2 h with ⟨p, q, rfl, rfl, h⟩ | h
  · exact cut_runs spec_l01New_jp6000001 spec_l01New_jv6000001 spec_l01New_js6000001 spec_l01New_je6000001 spec_l01New_jx6000001 (p.1, p.2.1, p.2.2.1) _ k r (fun z => rfl) h
  cases h

def spec_l01New_v0 : ((List Int) × Int × Int) → List AV := (fun x => [.lst (.int .u8) x.1, .int .i64 x.2.1, .int .i64 x.2.2])
def spec_l01New_s0 : ((List Int) × Int × Int) → St := (fun x => [])
def spec_l01New_e0 : ((List Int) × Int × Int) → Out × List AV × St := (fun z => ((.exit 0), [.lst (.int .u8) z.1, .int .i64 z.2.1, .int .i64 z.2.2], []))

theorem spec_l01New_bx0 (x : ((List Int) × Int × Int)) : exec G1 ⟨0, 32, spec_l01New_loops⟩ (loopBody Try.f95 0) (bodyK ⟨0, 32, spec_l01New_loops⟩ [0, 3, 4] []) (setEs (deads 32) [0, 3, 4] (spec_l01New_v0 x)) (spec_l01New_s0 x) = spec_l01New_b0 x (Sum.elim (fun y => some ⟨.norm, spec_l01New_v0 y, spec_l01New_s0 y⟩) fun z => some ⟨(spec_l01New_e0 z).1, (spec_l01New_e0 z).2.1, (spec_l01New_e0 z).2.2⟩) := by
  kernel_rfl

theorem spec_l01New_lo0 : ∀ sp, (spec_l01New_loops 0) = some sp → LoopOk G1 ⟨0, 32, spec_l01New_loops⟩ sp (loopBody Try.f95 0) := by
  intro sp hsp vals st k r h
  cases hsp
  dsimp only at h
  rcases onPats_inv2 h with ⟨p, q, rfl, rfl, h⟩ | h
  · exact loop_runs2 spec_l01New_bp0 spec_l01New_v0 spec_l01New_s0 spec_l01New_e0 (fun z => by (intro h; cases h)) spec_l01New_bx0 Fuel (p.1, p.2.1, p.2.2.1) _ k r (fun z => rfl) h
  cases h

theorem spec_l01New_y (a0 : (List Int)) : execFn G1 spec_l01New_loops Try.f95 [.lst (.int .u8) a0] [] = spec_l01New_k a0 (fun (y : ((List Int) × Int × Int)) => some ⟨.ret, [.bp 0 0], [.box [.lst (.int .u8) y.1, .int .i64 y.2.1, .int .i64 y.2.2]]⟩) := by rw [spec_l01New_e]; kernel_rfl

theorem spec_l01New_l : LoopsOk G1 ⟨0, 32, spec_l01New_loops⟩ (Try.f95.body.getD .skip) :=
  loopsOk_of (ids := [6000001, 0]) (by kernel_rfl) (by kernel_rfl) ⟨spec_l01New_lo6000001, ⟨spec_l01New_lo0, trivial⟩⟩

theorem spec_l01New_c : Contract Try.prog 95 spec_l01New_g := by
  refine told G1_ok follows Try.func95 (c := Try.f95.body.getD .skip) (by kernel_rfl) ?_
  intro args s k r hk
  unfold spec_l01New_g at hk
  rcases onPats_inv hk with ⟨p, q, rfl, rfl⟩ | hk
  · exact ⟨spec_l01New_loops, spec_l01New_q p.1, spec_l01New_y p.1, spec_l01New_l⟩
  cases hk

def G2 : Glob := G1.add 95 spec_l01New_g

theorem G2_ok : GlobOk Try.prog G2 := G1_ok.add ⟨Try.f95, Try.func95, by kernel_rfl, by kernel_rfl⟩ spec_l01New_c



def spec_l01Byte_loops : Nat → Option LoopSpec
  | 2000002 => some ⟨[0, 2, 4, 6, 8, 10, 12, 14, 16, 18, 20, 22, 24], [], fun _ _ _ => none⟩
  | 2000003 => some ⟨[0, 2, 4, 6, 8, 10, 12, 14, 16, 18], [], fun _ _ _ => none⟩
  | 2000004 => some ⟨[0, 2, 4, 6, 8, 10, 12, 14, 16, 18, 20, 22, 24, 26, 28], [], fun _ _ _ => none⟩
  | _ => none

theorem spec_l01Byte_y (a0 : (List Int)) (a1 : Int) (a2 : Int) : execFn G2 spec_l01Byte_loops Try.f176 [.bp 0 0] [.box [.lst (.int .u8) a0, .int .i64 a1, .int .i64 a2]] = spec_l01Byte_k a0 a1 a2 (fun (y : (Int × (List Int) × Int × Int)) => some ⟨.ret, [.int .i64 y.1], [.box [.lst (.int .u8) y.2.1, .int .i64 y.2.2.1, .int .i64 y.2.2.2]]⟩) := by rw [spec_l01Byte_e]; kernel_rfl

theorem spec_l01Byte_l : LoopsOk G2 ⟨1, 58, spec_l01Byte_loops⟩ (Try.f176.body.getD .skip) :=
  loopsOk_of (ids := []) (by kernel_rfl) (by kernel_rfl) trivial

theorem spec_l01Byte_c : Contract Try.prog 176 spec_l01Byte_g := by
  refine told G2_ok follows Try.func176 (c := Try.f176.body.getD .skip) (by kernel_rfl) ?_
  intro args s k r hk
  unfold spec_l01Byte_g at hk
  rcases onPats_inv hk with ⟨p, q, rfl, rfl⟩ | hk
  · exact ⟨spec_l01Byte_loops, spec_l01Byte_q q.1.1 q.1.2.1 q.1.2.2.1, spec_l01Byte_y q.1.1 q.1.2.1 q.1.2.2.1, spec_l01Byte_l⟩
  cases hk

def G3 : Glob := G2.add 176 spec_l01Byte_g

theorem G3_ok : GlobOk Try.prog G3 := G2_ok.add ⟨Try.f176, Try.func176, by kernel_rfl, by kernel_rfl⟩ spec_l01Byte_c



def spec_l01Below_loops : Nat → Option LoopSpec
  | _ => none

theorem spec_l01Below_y (a0 : Int) (a1 : (List Int)) (a2 : Int) (a3 : Int) : execFn G3 spec_l01Below_loops Try.f98 [.bp 0 0, .int .i64 a0] [.box [.lst (.int .u8) a1, .int .i64 a2, .int .i64 a3]] = spec_l01Below_k a0 a1 a2 a3 (fun (y : (Int × (List Int) × Int × Int)) => some ⟨.ret, [.int .i64 y.1], [.box [.lst (.int .u8) y.2.1, .int .i64 y.2.2.1, .int .i64 y.2.2.2]]⟩) := by rw [spec_l01Below_e]; kernel_rfl

theorem spec_l01Below_l : LoopsOk G3 ⟨1, 37, spec_l01Below_loops⟩ (Try.f98.body.getD .skip) :=
  loopsOk_of (ids := []) (by kernel_rfl) (by kernel_rfl) trivial

theorem spec_l01Below_c : Contract Try.prog 98 spec_l01Below_g := by
  refine told G3_ok follows Try.func98 (c := Try.f98.body.getD .skip) (by kernel_rfl) ?_
  intro args s k r hk
  unfold spec_l01Below_g at hk
  rcases onPats_inv hk with ⟨p, q, rfl, rfl⟩ | hk
  · exact ⟨spec_l01Below_loops, spec_l01Below_q p.2.1 q.1.1 q.1.2.1 q.1.2.2.1, spec_l01Below_y p.2.1 q.1.1 q.1.2.1 q.1.2.2.1, spec_l01Below_l⟩
  cases hk

def G4 : Glob := G3.add 98 spec_l01Below_g

theorem G4_ok : GlobOk Try.prog G4 := G3_ok.add ⟨Try.f98, Try.func98, by kernel_rfl, by kernel_rfl⟩ spec_l01Below_c



def spec_l01Pick_loops : Nat → Option LoopSpec
  | _ => none

theorem spec_l01Pick_y (a0 : (List ByteArray)) (a1 : (List Int)) (a2 : Int) (a3 : Int) : execFn G4 spec_l01Pick_loops Try.f210 [.bp 0 0, .lst .str a0] [.box [.lst (.int .u8) a1, .int .i64 a2, .int .i64 a3]] = spec_l01Pick_k a0 a1 a2 a3 (fun (y : q30T) => some ⟨.ret, [.str y.1], [.box [.lst (.int .u8) y.2.1, .int .i64 y.2.2.1, .int .i64 y.2.2.2]]⟩) := by rw [spec_l01Pick_e]; kernel_rfl

theorem spec_l01Pick_l : LoopsOk G4 ⟨1, 12, spec_l01Pick_loops⟩ (Try.f210.body.getD .skip) :=
  loopsOk_of (ids := []) (by kernel_rfl) (by kernel_rfl) trivial

theorem spec_l01Pick_c : Contract Try.prog 210 spec_l01Pick_g := by
  refine told G4_ok follows Try.func210 (c := Try.f210.body.getD .skip) (by kernel_rfl) ?_
  intro args s k r hk
  unfold spec_l01Pick_g at hk
  rcases onPats_inv hk with ⟨p, q, rfl, rfl⟩ | hk
  · exact ⟨spec_l01Pick_loops, spec_l01Pick_q p.2.1 q.1.1 q.1.2.1 q.1.2.2.1, spec_l01Pick_y p.2.1 q.1.1 q.1.2.1 q.1.2.2.1, spec_l01Pick_l⟩
  cases hk

def G5 : Glob := G4.add 210 spec_l01Pick_g

theorem G5_ok : GlobOk Try.prog G5 := G4_ok.add ⟨Try.f210, Try.func210, by kernel_rfl, by kernel_rfl⟩ spec_l01Pick_c



def spec_l05Key_loops : Nat → Option LoopSpec
  | _ => none

theorem spec_l05Key_y (a0 : (List Int)) (a1 : Int) (a2 : Int) : execFn G5 spec_l05Key_loops Try.f208 [.bp 0 0] [.box [.lst (.int .u8) a0, .int .i64 a1, .int .i64 a2]] = spec_l05Key_k a0 a1 a2 (fun (y : q30T) => some ⟨.ret, [.str y.1], [.box [.lst (.int .u8) y.2.1, .int .i64 y.2.2.1, .int .i64 y.2.2.2]]⟩) := by rw [spec_l05Key_e]; kernel_rfl

theorem spec_l05Key_l : LoopsOk G5 ⟨1, 6, spec_l05Key_loops⟩ (Try.f208.body.getD .skip) :=
  loopsOk_of (ids := []) (by kernel_rfl) (by kernel_rfl) trivial

theorem spec_l05Key_c : Contract Try.prog 208 spec_l05Key_g := by
  refine told G5_ok follows Try.func208 (c := Try.f208.body.getD .skip) (by kernel_rfl) ?_
  intro args s k r hk
  unfold spec_l05Key_g at hk
  rcases onPats_inv hk with ⟨p, q, rfl, rfl⟩ | hk
  · exact ⟨spec_l05Key_loops, spec_l05Key_q q.1.1 q.1.2.1 q.1.2.2.1, spec_l05Key_y q.1.1 q.1.2.1 q.1.2.2.1, spec_l05Key_l⟩
  cases hk

def G6 : Glob := G5.add 208 spec_l05Key_g

theorem G6_ok : GlobOk Try.prog G6 := G5_ok.add ⟨Try.f208, Try.func208, by kernel_rfl, by kernel_rfl⟩ spec_l05Key_c



def spec_l01Once_loops : Nat → Option LoopSpec
  | _ => none

theorem spec_l01Once_y (a0 : Int) (a1 : (List Int)) (a2 : Int) (a3 : Int) : execFn G6 spec_l01Once_loops Try.f209 [.bp 0 0, .int .i64 a0] [.box [.lst (.int .u8) a1, .int .i64 a2, .int .i64 a3]] = spec_l01Once_k a0 a1 a2 a3 (fun (y : q23T) => some ⟨.ret, [.bool y.1], [.box [.lst (.int .u8) y.2.1, .int .i64 y.2.2.1, .int .i64 y.2.2.2]]⟩) := by rw [spec_l01Once_e]; kernel_rfl

theorem spec_l01Once_l : LoopsOk G6 ⟨1, 9, spec_l01Once_loops⟩ (Try.f209.body.getD .skip) :=
  loopsOk_of (ids := []) (by kernel_rfl) (by kernel_rfl) trivial

theorem spec_l01Once_c : Contract Try.prog 209 spec_l01Once_g := by
  refine told G6_ok follows Try.func209 (c := Try.f209.body.getD .skip) (by kernel_rfl) ?_
  intro args s k r hk
  unfold spec_l01Once_g at hk
  rcases onPats_inv hk with ⟨p, q, rfl, rfl⟩ | hk
  · exact ⟨spec_l01Once_loops, spec_l01Once_q p.2.1 q.1.1 q.1.2.1 q.1.2.2.1, spec_l01Once_y p.2.1 q.1.1 q.1.2.1 q.1.2.2.1, spec_l01Once_l⟩
  cases hk

def G7 : Glob := G6.add 209 spec_l01Once_g

theorem G7_ok : GlobOk Try.prog G7 := G6_ok.add ⟨Try.f209, Try.func209, by kernel_rfl, by kernel_rfl⟩ spec_l01Once_c



def spec_l05Range_loops : Nat → Option LoopSpec
  | _ => none

theorem spec_l05Range_y (a0 : (List Int)) (a1 : Int) (a2 : Int) : execFn G7 spec_l05Range_loops Try.f174 [.bp 0 0] [.box [.lst (.int .u8) a0, .int .i64 a1, .int .i64 a2]] = spec_l05Range_k a0 a1 a2 (fun (y : q31T) => some ⟨.ret, [.agg [.str y.1, .str y.2.1]], [.box [.lst (.int .u8) y.2.2.1, .int .i64 y.2.2.2.1, .int .i64 y.2.2.2.2]]⟩) := by rw [spec_l05Range_e]; kernel_rfl

theorem spec_l05Range_l : LoopsOk G7 ⟨1, 23, spec_l05Range_loops⟩ (Try.f174.body.getD .skip) :=
  loopsOk_of (ids := []) (by kernel_rfl) (by kernel_rfl) trivial

theorem spec_l05Range_c : Contract Try.prog 174 spec_l05Range_g := by
  refine told G7_ok follows Try.func174 (c := Try.f174.body.getD .skip) (by kernel_rfl) ?_
  intro args s k r hk
  unfold spec_l05Range_g at hk
  rcases onPats_inv hk with ⟨p, q, rfl, rfl⟩ | hk
  · exact ⟨spec_l05Range_loops, spec_l05Range_q q.1.1 q.1.2.1 q.1.2.2.1, spec_l05Range_y q.1.1 q.1.2.1 q.1.2.2.1, spec_l05Range_l⟩
  cases hk

def G8 : Glob := G7.add 174 spec_l05Range_g

theorem G8_ok : GlobOk Try.prog G8 := G7_ok.add ⟨Try.f174, Try.func174, by kernel_rfl, by kernel_rfl⟩ spec_l05Range_c



def spec_l05Ranges_loops : Nat → Option LoopSpec
  | 0 => some ⟨[0, 3, 4], [], fun vals st k => onPats [.bp 0 0, .own 1, .int .i64] [.box [.lst (.int .u8), .int .i64, .int .i64], .arr tRange] vals st (fun p q => loopK spec_l05Ranges_b0 Fuel (p.2.2.1, q.1.1, q.1.2.1, q.1.2.2.1, q.2.1) (fun z => k (.exit 0) [.bp 0 0, .own 1, .int .i64 z.1] [.box [.lst (.int .u8) z.2.1, .int .i64 z.2.2.1, .int .i64 z.2.2.2.1], .arr tRange z.2.2.2.2]))
      (none)⟩
  | _ => none

def spec_l05Ranges_v0 : q33T → List AV := (fun x => [.bp 0 0, .own 1, .int .i64 x.1])
def spec_l05Ranges_s0 : q33T → St := (fun x => [.box [.lst (.int .u8) x.2.1, .int .i64 x.2.2.1, .int .i64 x.2.2.2.1], .arr tRange x.2.2.2.2])
def spec_l05Ranges_e0 : q33T → Out × List AV × St := (fun z => ((.exit 0), [.bp 0 0, .own 1, .int .i64 z.1], [.box [.lst (.int .u8) z.2.1, .int .i64 z.2.2.1, .int .i64 z.2.2.2.1], .arr tRange z.2.2.2.2]))

theorem spec_l05Ranges_bx0 (x : q33T) : exec G8 ⟨1, 18, spec_l05Ranges_loops⟩ (loopBody Try.f96 0) (bodyK ⟨1, 18, spec_l05Ranges_loops⟩ [0, 3, 4] []) (setEs (deads 18) [0, 3, 4] (spec_l05Ranges_v0 x)) (spec_l05Ranges_s0 x) = spec_l05Ranges_b0 x (Sum.elim (fun y => some ⟨.norm, spec_l05Ranges_v0 y, spec_l05Ranges_s0 y⟩) fun z => some ⟨(spec_l05Ranges_e0 z).1, (spec_l05Ranges_e0 z).2.1, (spec_l05Ranges_e0 z).2.2⟩) := by
  kernel_rfl

theorem spec_l05Ranges_lo0 : ∀ sp, (spec_l05Ranges_loops 0) = some sp → LoopOk G8 ⟨1, 18, spec_l05Ranges_loops⟩ sp (loopBody Try.f96 0) := by
  intro sp hsp vals st k r h
  cases hsp
  dsimp only at h
  rcases onPats_inv2 h with ⟨p, q, rfl, rfl, h⟩ | h
  · exact loop_runs2 spec_l05Ranges_bp0 spec_l05Ranges_v0 spec_l05Ranges_s0 spec_l05Ranges_e0 (fun z => by (intro h; cases h)) spec_l05Ranges_bx0 Fuel (p.2.2.1, q.1.1, q.1.2.1, q.1.2.2.1, q.2.1) _ k r (fun z => rfl) h
  cases h

theorem spec_l05Ranges_y (a0 : (List Int)) (a1 : Int) (a2 : Int) : execFn G8 spec_l05Ranges_loops Try.f96 [.bp 0 0] [.box [.lst (.int .u8) a0, .int .i64 a1, .int .i64 a2]] = spec_l05Ranges_k a0 a1 a2 (fun (y : q0T) => some ⟨.ret, [.own 1], [.box [.lst (.int .u8) y.1, .int .i64 y.2.1, .int .i64 y.2.2.1], .arr tRange y.2.2.2]⟩) := by rw [spec_l05Ranges_e]; kernel_rfl

theorem spec_l05Ranges_l : LoopsOk G8 ⟨1, 18, spec_l05Ranges_loops⟩ (Try.f96.body.getD .skip) :=
  loopsOk_of (ids := [0]) (by kernel_rfl) (by kernel_rfl) ⟨spec_l05Ranges_lo0, trivial⟩

theorem spec_l05Ranges_c : Contract Try.prog 96 spec_l05Ranges_g := by
  refine told G8_ok follows Try.func96 (c := Try.f96.body.getD .skip) (by kernel_rfl) ?_
  intro args s k r hk
  unfold spec_l05Ranges_g at hk
  rcases onPats_inv hk with ⟨p, q, rfl, rfl⟩ | hk
  · exact ⟨spec_l05Ranges_loops, spec_l05Ranges_q q.1.1 q.1.2.1 q.1.2.2.1, spec_l05Ranges_y q.1.1 q.1.2.1 q.1.2.2.1, spec_l05Ranges_l⟩
  cases hk

def G9 : Glob := G8.add 96 spec_l05Ranges_g

theorem G9_ok : GlobOk Try.prog G9 := G8_ok.add ⟨Try.f96, Try.func96, by kernel_rfl, by kernel_rfl⟩ spec_l05Ranges_c



def spec_l05Write_loops : Nat → Option LoopSpec
  | _ => none

theorem spec_l05Write_y (a0 : (List Int)) (a1 : Int) (a2 : Int) : execFn G9 spec_l05Write_loops Try.f175 [.bp 0 0] [.box [.lst (.int .u8) a0, .int .i64 a1, .int .i64 a2]] = spec_l05Write_k a0 a1 a2 (fun (y : q32T) => some ⟨.ret, [.agg [.str y.1, .str y.2.1, .bool y.2.2.1]], [.box [.lst (.int .u8) y.2.2.2.1, .int .i64 y.2.2.2.2.1, .int .i64 y.2.2.2.2.2]]⟩) := by rw [spec_l05Write_e]; kernel_rfl

theorem spec_l05Write_l : LoopsOk G9 ⟨1, 15, spec_l05Write_loops⟩ (Try.f175.body.getD .skip) :=
  loopsOk_of (ids := []) (by kernel_rfl) (by kernel_rfl) trivial

theorem spec_l05Write_c : Contract Try.prog 175 spec_l05Write_g := by
  refine told G9_ok follows Try.func175 (c := Try.f175.body.getD .skip) (by kernel_rfl) ?_
  intro args s k r hk
  unfold spec_l05Write_g at hk
  rcases onPats_inv hk with ⟨p, q, rfl, rfl⟩ | hk
  · exact ⟨spec_l05Write_loops, spec_l05Write_q q.1.1 q.1.2.1 q.1.2.2.1, spec_l05Write_y q.1.1 q.1.2.1 q.1.2.2.1, spec_l05Write_l⟩
  cases hk

def G10 : Glob := G9.add 175 spec_l05Write_g

theorem G10_ok : GlobOk Try.prog G10 := G9_ok.add ⟨Try.f175, Try.func175, by kernel_rfl, by kernel_rfl⟩ spec_l05Write_c



def spec_PutWrite_loops : Nat → Option LoopSpec
  | 0 => some ⟨[0, 3, 5, 6], [], fun vals st k => onPats [.lst tWrite, .bp 0 0, .own 1, .int .i64] [.box [.str, .str, .bool], .arr tWrite] vals st (fun p q => loopK spec_PutWrite_b0 Fuel (p.1, p.2.2.2.1, q.1.1, q.1.2.1, q.1.2.2.1, q.2.1) (fun z => k (.exit 0) [.lst tWrite z.1, .bp 0 0, .own 1, .int .i64 z.2.1] [.box [.str z.2.2.1, .str z.2.2.2.1, .bool z.2.2.2.2.1], .arr tWrite z.2.2.2.2.2]))
      (none)⟩
  | 2 => some ⟨[0, 3, 5, 7], [], fun vals st k => onPats [.lst tWrite, .bp 0 0, .own 1, .int .i64] [.box [.str, .str, .bool], .arr tWrite] vals st (fun p q => loopK spec_PutWrite_b2 Fuel (p.1, p.2.2.2.1, q.1.1, q.1.2.1, q.1.2.2.1, q.2.1) (fun z => k (.exit 2) [.lst tWrite z.1, .bp 0 0, .own 1, .int .i64 z.2.1] [.box [.str z.2.2.1, .str z.2.2.2.1, .bool z.2.2.2.2.1], .arr tWrite z.2.2.2.2.2]))
      (none)⟩
  | 2000005 => some ⟨[0, 2, 4, 6, 8, 10, 12, 14], [], fun _ _ _ => none⟩
  | 2000011 => some ⟨[0, 2, 4, 6, 8, 10, 12, 14], [], fun _ _ _ => none⟩
  | _ => none

def spec_PutWrite_v0 : q22T → List AV := (fun x => [.lst tWrite x.1, .bp 0 0, .own 1, .int .i64 x.2.1])
def spec_PutWrite_s0 : q22T → St := (fun x => [.box [.str x.2.2.1, .str x.2.2.2.1, .bool x.2.2.2.2.1], .arr tWrite x.2.2.2.2.2])
def spec_PutWrite_e0 : q22T → Out × List AV × St := (fun z => ((.exit 0), [.lst tWrite z.1, .bp 0 0, .own 1, .int .i64 z.2.1], [.box [.str z.2.2.1, .str z.2.2.2.1, .bool z.2.2.2.2.1], .arr tWrite z.2.2.2.2.2]))

theorem spec_PutWrite_bx0 (x : q22T) : exec G10 ⟨0, 56, spec_PutWrite_loops⟩ (loopBody Try.f140 0) (bodyK ⟨0, 56, spec_PutWrite_loops⟩ [0, 3, 5, 6] []) (setEs (deads 56) [0, 3, 5, 6] (spec_PutWrite_v0 x)) (spec_PutWrite_s0 x) = spec_PutWrite_b0 x (Sum.elim (fun y => some ⟨.norm, spec_PutWrite_v0 y, spec_PutWrite_s0 y⟩) fun z => some ⟨(spec_PutWrite_e0 z).1, (spec_PutWrite_e0 z).2.1, (spec_PutWrite_e0 z).2.2⟩) := by
  kernel_rfl

theorem spec_PutWrite_lo0 : ∀ sp, (spec_PutWrite_loops 0) = some sp → LoopOk G10 ⟨0, 56, spec_PutWrite_loops⟩ sp (loopBody Try.f140 0) := by
  intro sp hsp vals st k r h
  cases hsp
  dsimp only at h
  rcases onPats_inv2 h with ⟨p, q, rfl, rfl, h⟩ | h
  · exact loop_runs2 spec_PutWrite_bp0 spec_PutWrite_v0 spec_PutWrite_s0 spec_PutWrite_e0 (fun z => by (intro h; cases h)) spec_PutWrite_bx0 Fuel (p.1, p.2.2.2.1, q.1.1, q.1.2.1, q.1.2.2.1, q.2.1) _ k r (fun z => rfl) h
  cases h

def spec_PutWrite_v2 : q22T → List AV := (fun x => [.lst tWrite x.1, .bp 0 0, .own 1, .int .i64 x.2.1])
def spec_PutWrite_s2 : q22T → St := (fun x => [.box [.str x.2.2.1, .str x.2.2.2.1, .bool x.2.2.2.2.1], .arr tWrite x.2.2.2.2.2])
def spec_PutWrite_e2 : q22T → Out × List AV × St := (fun z => ((.exit 2), [.lst tWrite z.1, .bp 0 0, .own 1, .int .i64 z.2.1], [.box [.str z.2.2.1, .str z.2.2.2.1, .bool z.2.2.2.2.1], .arr tWrite z.2.2.2.2.2]))

theorem spec_PutWrite_bx2 (x : q22T) : exec G10 ⟨0, 56, spec_PutWrite_loops⟩ (loopBody Try.f140 2) (bodyK ⟨0, 56, spec_PutWrite_loops⟩ [0, 3, 5, 7] []) (setEs (deads 56) [0, 3, 5, 7] (spec_PutWrite_v2 x)) (spec_PutWrite_s2 x) = spec_PutWrite_b2 x (Sum.elim (fun y => some ⟨.norm, spec_PutWrite_v2 y, spec_PutWrite_s2 y⟩) fun z => some ⟨(spec_PutWrite_e2 z).1, (spec_PutWrite_e2 z).2.1, (spec_PutWrite_e2 z).2.2⟩) := by
  kernel_rfl

theorem spec_PutWrite_lo2 : ∀ sp, (spec_PutWrite_loops 2) = some sp → LoopOk G10 ⟨0, 56, spec_PutWrite_loops⟩ sp (loopBody Try.f140 2) := by
  intro sp hsp vals st k r h
  cases hsp
  dsimp only at h
  rcases onPats_inv2 h with ⟨p, q, rfl, rfl, h⟩ | h
  · exact loop_runs2 spec_PutWrite_bp2 spec_PutWrite_v2 spec_PutWrite_s2 spec_PutWrite_e2 (fun z => by (intro h; cases h)) spec_PutWrite_bx2 Fuel (p.1, p.2.2.2.1, q.1.1, q.1.2.1, q.1.2.2.1, q.2.1) _ k r (fun z => rfl) h
  cases h

theorem spec_PutWrite_y (a0 : (List dWrite)) (a1 : ByteArray) (a2 : ByteArray) (a3 : Bool) : execFn G10 spec_PutWrite_loops Try.f140 [.lst tWrite a0, .agg [.str a1, .str a2, .bool a3]] [] = spec_PutWrite_k a0 (a1, (a2, a3)) (fun (y : (List dWrite)) => some ⟨.ret, [.own 0], [.arr tWrite y]⟩) := by rw [spec_PutWrite_e]; kernel_rfl

theorem spec_PutWrite_l : LoopsOk G10 ⟨0, 56, spec_PutWrite_loops⟩ (Try.f140.body.getD .skip) :=
  loopsOk_of (ids := [0, 2]) (by kernel_rfl) (by kernel_rfl) ⟨spec_PutWrite_lo0, ⟨spec_PutWrite_lo2, trivial⟩⟩

theorem spec_PutWrite_c : Contract Try.prog 140 spec_PutWrite_g := by
  refine told G10_ok follows Try.func140 (c := Try.f140.body.getD .skip) (by kernel_rfl) ?_
  intro args s k r hk
  unfold spec_PutWrite_g at hk
  rcases onPats_inv hk with ⟨p, q, rfl, rfl⟩ | hk
  · exact ⟨spec_PutWrite_loops, spec_PutWrite_q p.1 p.2.1.1 p.2.1.2.1 p.2.1.2.2.1, spec_PutWrite_y p.1 p.2.1.1 p.2.1.2.1 p.2.1.2.2.1, spec_PutWrite_l⟩
  cases hk

def G11 : Glob := G10.add 140 spec_PutWrite_g

theorem G11_ok : GlobOk Try.prog G11 := G10_ok.add ⟨Try.f140, Try.func140, by kernel_rfl, by kernel_rfl⟩ spec_PutWrite_c



def spec_l05Writes_loops : Nat → Option LoopSpec
  | 0 => some ⟨[0, 3, 4], [], fun vals st k => onPats [.bp 0 0, .own 1, .int .i64] [.box [.lst (.int .u8), .int .i64, .int .i64], .arr tWrite] vals st (fun p q => loopK spec_l05Writes_b0 Fuel (p.2.2.1, q.1.1, q.1.2.1, q.1.2.2.1, q.2.1) (fun z => k (.exit 0) [.bp 0 0, .own 1, .int .i64 z.1] [.box [.lst (.int .u8) z.2.1, .int .i64 z.2.2.1, .int .i64 z.2.2.2.1], .arr tWrite z.2.2.2.2]))
      (none)⟩
  | _ => none

def spec_l05Writes_v0 : q35T → List AV := (fun x => [.bp 0 0, .own 1, .int .i64 x.1])
def spec_l05Writes_s0 : q35T → St := (fun x => [.box [.lst (.int .u8) x.2.1, .int .i64 x.2.2.1, .int .i64 x.2.2.2.1], .arr tWrite x.2.2.2.2])
def spec_l05Writes_e0 : q35T → Out × List AV × St := (fun z => ((.exit 0), [.bp 0 0, .own 1, .int .i64 z.1], [.box [.lst (.int .u8) z.2.1, .int .i64 z.2.2.1, .int .i64 z.2.2.2.1], .arr tWrite z.2.2.2.2]))

theorem spec_l05Writes_bx0 (x : q35T) : exec G11 ⟨1, 17, spec_l05Writes_loops⟩ (loopBody Try.f97 0) (bodyK ⟨1, 17, spec_l05Writes_loops⟩ [0, 3, 4] []) (setEs (deads 17) [0, 3, 4] (spec_l05Writes_v0 x)) (spec_l05Writes_s0 x) = spec_l05Writes_b0 x (Sum.elim (fun y => some ⟨.norm, spec_l05Writes_v0 y, spec_l05Writes_s0 y⟩) fun z => some ⟨(spec_l05Writes_e0 z).1, (spec_l05Writes_e0 z).2.1, (spec_l05Writes_e0 z).2.2⟩) := by
  kernel_rfl

theorem spec_l05Writes_lo0 : ∀ sp, (spec_l05Writes_loops 0) = some sp → LoopOk G11 ⟨1, 17, spec_l05Writes_loops⟩ sp (loopBody Try.f97 0) := by
  intro sp hsp vals st k r h
  cases hsp
  dsimp only at h
  rcases onPats_inv2 h with ⟨p, q, rfl, rfl, h⟩ | h
  · exact loop_runs2 spec_l05Writes_bp0 spec_l05Writes_v0 spec_l05Writes_s0 spec_l05Writes_e0 (fun z => by (intro h; cases h)) spec_l05Writes_bx0 Fuel (p.2.2.1, q.1.1, q.1.2.1, q.1.2.2.1, q.2.1) _ k r (fun z => rfl) h
  cases h

theorem spec_l05Writes_y (a0 : (List Int)) (a1 : Int) (a2 : Int) : execFn G11 spec_l05Writes_loops Try.f97 [.bp 0 0] [.box [.lst (.int .u8) a0, .int .i64 a1, .int .i64 a2]] = spec_l05Writes_k a0 a1 a2 (fun (y : q2T) => some ⟨.ret, [.own 1], [.box [.lst (.int .u8) y.1, .int .i64 y.2.1, .int .i64 y.2.2.1], .arr tWrite y.2.2.2]⟩) := by rw [spec_l05Writes_e]; kernel_rfl

theorem spec_l05Writes_l : LoopsOk G11 ⟨1, 17, spec_l05Writes_loops⟩ (Try.f97.body.getD .skip) :=
  loopsOk_of (ids := [0]) (by kernel_rfl) (by kernel_rfl) ⟨spec_l05Writes_lo0, trivial⟩

theorem spec_l05Writes_c : Contract Try.prog 97 spec_l05Writes_g := by
  refine told G11_ok follows Try.func97 (c := Try.f97.body.getD .skip) (by kernel_rfl) ?_
  intro args s k r hk
  unfold spec_l05Writes_g at hk
  rcases onPats_inv hk with ⟨p, q, rfl, rfl⟩ | hk
  · exact ⟨spec_l05Writes_loops, spec_l05Writes_q q.1.1 q.1.2.1 q.1.2.2.1, spec_l05Writes_y q.1.1 q.1.2.1 q.1.2.2.1, spec_l05Writes_l⟩
  cases hk

def G12 : Glob := G11.add 97 spec_l05Writes_g

theorem G12_ok : GlobOk Try.prog G12 := G11_ok.add ⟨Try.f97, Try.func97, by kernel_rfl, by kernel_rfl⟩ spec_l05Writes_c



def spec_l07Txn_loops : Nat → Option LoopSpec
  | 1000011 => some ⟨[0], [], fun _ _ _ => none⟩
  | _ => none

theorem spec_l07Txn_y (a0 : (List Int)) (a1 : Int) (a2 : Int) : execFn G12 spec_l07Txn_loops Try.f177 [.bp 0 0] [.box [.lst (.int .u8) a0, .int .i64 a1, .int .i64 a2]] = spec_l07Txn_k a0 a1 a2 (fun (y : q37T) => some ⟨.ret, [.agg [.int .i64 y.1, .int .i64 y.2.1, .int .i64 y.2.2.1, .int .i64 y.2.2.2.1, .own 1, .own 2, .bool y.2.2.2.2.1, .str y.2.2.2.2.2.1]], [.box [.lst (.int .u8) y.2.2.2.2.2.2.1, .int .i64 y.2.2.2.2.2.2.2.1, .int .i64 y.2.2.2.2.2.2.2.2.1], .arr tRange y.2.2.2.2.2.2.2.2.2.1, .arr tWrite y.2.2.2.2.2.2.2.2.2.2]⟩) := by rw [spec_l07Txn_e]; kernel_rfl

theorem spec_l07Txn_l : LoopsOk G12 ⟨1, 46, spec_l07Txn_loops⟩ (Try.f177.body.getD .skip) :=
  loopsOk_of (ids := []) (by kernel_rfl) (by kernel_rfl) trivial

theorem spec_l07Txn_c : Contract Try.prog 177 spec_l07Txn_g := by
  refine told G12_ok follows Try.func177 (c := Try.f177.body.getD .skip) (by kernel_rfl) ?_
  intro args s k r hk
  unfold spec_l07Txn_g at hk
  rcases onPats_inv hk with ⟨p, q, rfl, rfl⟩ | hk
  · exact ⟨spec_l07Txn_loops, spec_l07Txn_q q.1.1 q.1.2.1 q.1.2.2.1, spec_l07Txn_y q.1.1 q.1.2.1 q.1.2.2.1, spec_l07Txn_l⟩
  cases hk

def G13 : Glob := G12.add 177 spec_l07Txn_g

theorem G13_ok : GlobOk Try.prog G13 := G12_ok.add ⟨Try.f177, Try.func177, by kernel_rfl, by kernel_rfl⟩ spec_l07Txn_c



def spec_l08List_loops : Nat → Option LoopSpec
  | 0 => some ⟨[0, 3, 4], [], fun vals st k => onPats [.bp 0 0, .own 1, .int .i64] [.box [.lst (.int .u8), .int .i64, .int .i64], .arr tTxn] vals st (fun p q => loopK spec_l08List_b0 Fuel (p.2.2.1, q.1.1, q.1.2.1, q.1.2.2.1, q.2.1) (fun z => k (.exit 0) [.bp 0 0, .own 1, .int .i64 z.1] [.box [.lst (.int .u8) z.2.1, .int .i64 z.2.2.1, .int .i64 z.2.2.2.1], .arr tTxn z.2.2.2.2]))
      (none)⟩
  | _ => none

def spec_l08List_v0 : q34T → List AV := (fun x => [.bp 0 0, .own 1, .int .i64 x.1])
def spec_l08List_s0 : q34T → St := (fun x => [.box [.lst (.int .u8) x.2.1, .int .i64 x.2.2.1, .int .i64 x.2.2.2.1], .arr tTxn x.2.2.2.2])
def spec_l08List_e0 : q34T → Out × List AV × St := (fun z => ((.exit 0), [.bp 0 0, .own 1, .int .i64 z.1], [.box [.lst (.int .u8) z.2.1, .int .i64 z.2.2.1, .int .i64 z.2.2.2.1], .arr tTxn z.2.2.2.2]))

theorem spec_l08List_bx0 (x : q34T) : exec G13 ⟨1, 23, spec_l08List_loops⟩ (loopBody Try.f99 0) (bodyK ⟨1, 23, spec_l08List_loops⟩ [0, 3, 4] []) (setEs (deads 23) [0, 3, 4] (spec_l08List_v0 x)) (spec_l08List_s0 x) = spec_l08List_b0 x (Sum.elim (fun y => some ⟨.norm, spec_l08List_v0 y, spec_l08List_s0 y⟩) fun z => some ⟨(spec_l08List_e0 z).1, (spec_l08List_e0 z).2.1, (spec_l08List_e0 z).2.2⟩) := by
  kernel_rfl

theorem spec_l08List_lo0 : ∀ sp, (spec_l08List_loops 0) = some sp → LoopOk G13 ⟨1, 23, spec_l08List_loops⟩ sp (loopBody Try.f99 0) := by
  intro sp hsp vals st k r h
  cases hsp
  dsimp only at h
  rcases onPats_inv2 h with ⟨p, q, rfl, rfl, h⟩ | h
  · exact loop_runs2 spec_l08List_bp0 spec_l08List_v0 spec_l08List_s0 spec_l08List_e0 (fun z => by (intro h; cases h)) spec_l08List_bx0 Fuel (p.2.2.1, q.1.1, q.1.2.1, q.1.2.2.1, q.2.1) _ k r (fun z => rfl) h
  cases h

theorem spec_l08List_y (a0 : (List Int)) (a1 : Int) (a2 : Int) : execFn G13 spec_l08List_loops Try.f99 [.bp 0 0] [.box [.lst (.int .u8) a0, .int .i64 a1, .int .i64 a2]] = spec_l08List_k a0 a1 a2 (fun (y : q1T) => some ⟨.ret, [.own 1], [.box [.lst (.int .u8) y.1, .int .i64 y.2.1, .int .i64 y.2.2.1], .arr tTxn y.2.2.2]⟩) := by rw [spec_l08List_e]; kernel_rfl

theorem spec_l08List_l : LoopsOk G13 ⟨1, 23, spec_l08List_loops⟩ (Try.f99.body.getD .skip) :=
  loopsOk_of (ids := [0]) (by kernel_rfl) (by kernel_rfl) ⟨spec_l08List_lo0, trivial⟩

theorem spec_l08List_c : Contract Try.prog 99 spec_l08List_g := by
  refine told G13_ok follows Try.func99 (c := Try.f99.body.getD .skip) (by kernel_rfl) ?_
  intro args s k r hk
  unfold spec_l08List_g at hk
  rcases onPats_inv hk with ⟨p, q, rfl, rfl⟩ | hk
  · exact ⟨spec_l08List_loops, spec_l08List_q q.1.1 q.1.2.1 q.1.2.2.1, spec_l08List_y q.1.1 q.1.2.1 q.1.2.2.1, spec_l08List_l⟩
  cases hk

def G14 : Glob := G13.add 99 spec_l08List_g

theorem G14_ok : GlobOk Try.prog G14 := G13_ok.add ⟨Try.f99, Try.func99, by kernel_rfl, by kernel_rfl⟩ spec_l08List_c



def spec_DrawOthers_loops : Nat → Option LoopSpec
  | 1000005 => some ⟨[1], [], fun _ _ _ => none⟩
  | _ => none

theorem spec_DrawOthers_y (a0 : (List Int)) : execFn G14 spec_DrawOthers_loops Try.f26 [.lst (.int .u8) a0] [] = spec_DrawOthers_k a0 (fun (y : q38T) => some ⟨.ret, [.tup [.agg [.int .i64 y.1, .int .i64 y.2.1, .int .i64 y.2.2.1, .int .i64 y.2.2.2.1, .own 0, .own 1, .bool y.2.2.2.2.1, .str y.2.2.2.2.2.1], .own 2]], [.arr tRange y.2.2.2.2.2.2.1, .arr tWrite y.2.2.2.2.2.2.2.1, .arr tTxn y.2.2.2.2.2.2.2.2]⟩) := by rw [spec_DrawOthers_e]; kernel_rfl

theorem spec_DrawOthers_l : LoopsOk G14 ⟨0, 22, spec_DrawOthers_loops⟩ (Try.f26.body.getD .skip) :=
  loopsOk_of (ids := []) (by kernel_rfl) (by kernel_rfl) trivial

theorem spec_DrawOthers_c : Contract Try.prog 26 spec_DrawOthers_g := by
  refine told G14_ok follows Try.func26 (c := Try.f26.body.getD .skip) (by kernel_rfl) ?_
  intro args s k r hk
  unfold spec_DrawOthers_g at hk
  rcases onPats_inv hk with ⟨p, q, rfl, rfl⟩ | hk
  · exact ⟨spec_DrawOthers_loops, spec_DrawOthers_q p.1, spec_DrawOthers_y p.1, spec_DrawOthers_l⟩
  cases hk

def G15 : Glob := G14.add 26 spec_DrawOthers_g

theorem G15_ok : GlobOk Try.prog G15 := G14_ok.add ⟨Try.f26, Try.func26, by kernel_rfl, by kernel_rfl⟩ spec_DrawOthers_c



def impl_isReady_loops : Nat → Option LoopSpec
  | _ => none

theorem impl_isReady_y (a0 : Int) (a1 : Int) (a2 : Int) (a3 : Int) (a4 : (List dRange)) (a5 : (List dWrite)) (a6 : Bool) (a7 : ByteArray) : execFn G15 impl_isReady_loops Try.f102 [.agg [.int .i64 a0, .int .i64 a1, .int .i64 a2, .int .i64 a3, .lst tRange a4, .lst tWrite a5, .bool a6, .str a7]] [] = impl_isReady_k (a0, (a1, (a2, (a3, (a4, (a5, (a6, a7))))))) (fun (y : Bool) => some ⟨.ret, [.bool y], []⟩) := by rw [impl_isReady_e]; kernel_rfl

theorem impl_isReady_l : LoopsOk G15 ⟨0, 6, impl_isReady_loops⟩ (Try.f102.body.getD .skip) :=
  loopsOk_of (ids := []) (by kernel_rfl) (by kernel_rfl) trivial

theorem impl_isReady_c : Contract Try.prog 102 impl_isReady_g := by
  refine told G15_ok follows Try.func102 (c := Try.f102.body.getD .skip) (by kernel_rfl) ?_
  intro args s k r hk
  unfold impl_isReady_g at hk
  rcases onPats_inv hk with ⟨p, q, rfl, rfl⟩ | hk
  · exact ⟨impl_isReady_loops, impl_isReady_q p.1.1 p.1.2.1 p.1.2.2.1 p.1.2.2.2.1 p.1.2.2.2.2.1 p.1.2.2.2.2.2.1 p.1.2.2.2.2.2.2.1 p.1.2.2.2.2.2.2.2.1, impl_isReady_y p.1.1 p.1.2.1 p.1.2.2.1 p.1.2.2.2.1 p.1.2.2.2.2.1 p.1.2.2.2.2.2.1 p.1.2.2.2.2.2.2.1 p.1.2.2.2.2.2.2.2.1, impl_isReady_l⟩
  cases hk

def G16 : Glob := G15.add 102 impl_isReady_g

theorem G16_ok : GlobOk Try.prog G16 := G15_ok.add ⟨Try.f102, Try.func102, by kernel_rfl, by kernel_rfl⟩ impl_isReady_c



def impl_Beside_1_loops : Nat → Option LoopSpec
  | _ => none

theorem impl_Beside_1_y (a0 : Int) (a1 : Int) (a2 : Int) (a3 : Int) (a4 : (List dRange)) (a5 : (List dWrite)) (a6 : Bool) (a7 : ByteArray) (a8 : Int) (a9 : Int) (a10 : Int) (a11 : Int) (a12 : (List dRange)) (a13 : (List dWrite)) (a14 : Bool) (a15 : ByteArray) : execFn G16 impl_Beside_1_loops Try.f211 [.agg [.int .i64 a0, .int .i64 a1, .int .i64 a2, .int .i64 a3, .lst tRange a4, .lst tWrite a5, .bool a6, .str a7], .agg [.int .i64 a8, .int .i64 a9, .int .i64 a10, .int .i64 a11, .lst tRange a12, .lst tWrite a13, .bool a14, .str a15]] [] = impl_Beside_1_k (a0, (a1, (a2, (a3, (a4, (a5, (a6, a7))))))) (a8, (a9, (a10, (a11, (a12, (a13, (a14, a15))))))) (fun (y : Bool) => some ⟨.ret, [.bool y], []⟩) := by rw [impl_Beside_1_e]; kernel_rfl

theorem impl_Beside_1_l : LoopsOk G16 ⟨0, 15, impl_Beside_1_loops⟩ (Try.f211.body.getD .skip) :=
  loopsOk_of (ids := []) (by kernel_rfl) (by kernel_rfl) trivial

theorem impl_Beside_1_c : Contract Try.prog 211 impl_Beside_1_g := by
  refine told G16_ok follows Try.func211 (c := Try.f211.body.getD .skip) (by kernel_rfl) ?_
  intro args s k r hk
  unfold impl_Beside_1_g at hk
  rcases onPats_inv hk with ⟨p, q, rfl, rfl⟩ | hk
  · exact ⟨impl_Beside_1_loops, impl_Beside_1_q p.1.1 p.1.2.1 p.1.2.2.1 p.1.2.2.2.1 p.1.2.2.2.2.1 p.1.2.2.2.2.2.1 p.1.2.2.2.2.2.2.1 p.1.2.2.2.2.2.2.2.1 p.2.1.1 p.2.1.2.1 p.2.1.2.2.1 p.2.1.2.2.2.1 p.2.1.2.2.2.2.1 p.2.1.2.2.2.2.2.1 p.2.1.2.2.2.2.2.2.1 p.2.1.2.2.2.2.2.2.2.1, impl_Beside_1_y p.1.1 p.1.2.1 p.1.2.2.1 p.1.2.2.2.1 p.1.2.2.2.2.1 p.1.2.2.2.2.2.1 p.1.2.2.2.2.2.2.1 p.1.2.2.2.2.2.2.2.1 p.2.1.1 p.2.1.2.1 p.2.1.2.2.1 p.2.1.2.2.2.1 p.2.1.2.2.2.2.1 p.2.1.2.2.2.2.2.1 p.2.1.2.2.2.2.2.2.1 p.2.1.2.2.2.2.2.2.2.1, impl_Beside_1_l⟩
  cases hk

def G17 : Glob := G16.add 211 impl_Beside_1_g

theorem G17_ok : GlobOk Try.prog G17 := G16_ok.add ⟨Try.f211, Try.func211, by kernel_rfl, by kernel_rfl⟩ impl_Beside_1_c



def impl_Beside_loops : Nat → Option LoopSpec
  | _ => none

theorem impl_Beside_y (a0 : Int) (a1 : Int) (a2 : Int) (a3 : Int) (a4 : (List dRange)) (a5 : (List dWrite)) (a6 : Bool) (a7 : ByteArray) (a8 : Int) (a9 : Int) (a10 : Int) (a11 : Int) (a12 : (List dRange)) (a13 : (List dWrite)) (a14 : Bool) (a15 : ByteArray) : execFn G17 impl_Beside_loops Try.f179 [.agg [.int .i64 a0, .int .i64 a1, .int .i64 a2, .int .i64 a3, .lst tRange a4, .lst tWrite a5, .bool a6, .str a7], .agg [.int .i64 a8, .int .i64 a9, .int .i64 a10, .int .i64 a11, .lst tRange a12, .lst tWrite a13, .bool a14, .str a15]] [] = impl_Beside_k (a0, (a1, (a2, (a3, (a4, (a5, (a6, a7))))))) (a8, (a9, (a10, (a11, (a12, (a13, (a14, a15))))))) (fun (y : Bool) => some ⟨.ret, [.bool y], []⟩) := by rw [impl_Beside_e]; kernel_rfl

theorem impl_Beside_l : LoopsOk G17 ⟨0, 25, impl_Beside_loops⟩ (Try.f179.body.getD .skip) :=
  loopsOk_of (ids := []) (by kernel_rfl) (by kernel_rfl) trivial

theorem impl_Beside_c : Contract Try.prog 179 impl_Beside_g := by
  refine told G17_ok follows Try.func179 (c := Try.f179.body.getD .skip) (by kernel_rfl) ?_
  intro args s k r hk
  unfold impl_Beside_g at hk
  rcases onPats_inv hk with ⟨p, q, rfl, rfl⟩ | hk
  · exact ⟨impl_Beside_loops, impl_Beside_q p.1.1 p.1.2.1 p.1.2.2.1 p.1.2.2.2.1 p.1.2.2.2.2.1 p.1.2.2.2.2.2.1 p.1.2.2.2.2.2.2.1 p.1.2.2.2.2.2.2.2.1 p.2.1.1 p.2.1.2.1 p.2.1.2.2.1 p.2.1.2.2.2.1 p.2.1.2.2.2.2.1 p.2.1.2.2.2.2.2.1 p.2.1.2.2.2.2.2.2.1 p.2.1.2.2.2.2.2.2.2.1, impl_Beside_y p.1.1 p.1.2.1 p.1.2.2.1 p.1.2.2.2.1 p.1.2.2.2.2.1 p.1.2.2.2.2.2.1 p.1.2.2.2.2.2.2.1 p.1.2.2.2.2.2.2.2.1 p.2.1.1 p.2.1.2.1 p.2.1.2.2.1 p.2.1.2.2.2.1 p.2.1.2.2.2.2.1 p.2.1.2.2.2.2.2.1 p.2.1.2.2.2.2.2.2.1 p.2.1.2.2.2.2.2.2.2.1, impl_Beside_l⟩
  cases hk

def G18 : Glob := G17.add 179 impl_Beside_g

theorem G18_ok : GlobOk Try.prog G18 := G17_ok.add ⟨Try.f179, Try.func179, by kernel_rfl, by kernel_rfl⟩ impl_Beside_c



def impl_InRange_loops : Nat → Option LoopSpec
  | _ => none

theorem impl_InRange_y (a0 : ByteArray) (a1 : ByteArray) (a2 : ByteArray) : execFn G18 impl_InRange_loops Try.f166 [.agg [.str a0, .str a1], .str a2] [] = impl_InRange_k (a0, a1) a2 (fun (y : Bool) => some ⟨.ret, [.bool y], []⟩) := by rw [impl_InRange_e]; kernel_rfl

theorem impl_InRange_l : LoopsOk G18 ⟨0, 15, impl_InRange_loops⟩ (Try.f166.body.getD .skip) :=
  loopsOk_of (ids := []) (by kernel_rfl) (by kernel_rfl) trivial

theorem impl_InRange_c : Contract Try.prog 166 impl_InRange_g := by
  refine told G18_ok follows Try.func166 (c := Try.f166.body.getD .skip) (by kernel_rfl) ?_
  intro args s k r hk
  unfold impl_InRange_g at hk
  rcases onPats_inv hk with ⟨p, q, rfl, rfl⟩ | hk
  · exact ⟨impl_InRange_loops, impl_InRange_q p.1.1 p.1.2.1 p.2.1, impl_InRange_y p.1.1 p.1.2.1 p.2.1, impl_InRange_l⟩
  cases hk

def G19 : Glob := G18.add 166 impl_InRange_g

theorem G19_ok : GlobOk Try.prog G19 := G18_ok.add ⟨Try.f166, Try.func166, by kernel_rfl, by kernel_rfl⟩ impl_InRange_c



def impl_Touches_loops : Nat → Option LoopSpec
  | 2 => some ⟨[1, 4, 6, 9, 10, 11, 15, 16, 17], [], fun vals st k => onPats [.lst tWrite, .bool, .bp 0 0, .lst tRange, .int .i64, .int .i64, .lst tWrite, .int .i64, .int .i64] [.box [.str, .str]] vals st (fun p q => loopK impl_Touches_b2 Fuel (p.1, p.2.1, p.2.2.2.1, p.2.2.2.2.1, p.2.2.2.2.2.1, p.2.2.2.2.2.2.1, p.2.2.2.2.2.2.2.1, p.2.2.2.2.2.2.2.2.1, q.1.1, q.1.2.1) (Sum.elim (fun z => k .ret [.lst tWrite z.1, .bool z.2.1, .bp 0 0, .lst tRange z.2.2.1, .int .i64 z.2.2.2.1, .int .i64 z.2.2.2.2.1, .lst tWrite z.2.2.2.2.2.1, .int .i64 z.2.2.2.2.2.2.1, .int .i64 z.2.2.2.2.2.2.2.1] [.box [.str z.2.2.2.2.2.2.2.2.1, .str z.2.2.2.2.2.2.2.2.2]]) (fun z => k (.exit 2) [.lst tWrite z.1, .bool z.2.1, .bp 0 0, .lst tRange z.2.2.1, .int .i64 z.2.2.2.1, .int .i64 z.2.2.2.2.1, .lst tWrite z.2.2.2.2.2.1, .int .i64 z.2.2.2.2.2.2.1, .int .i64 z.2.2.2.2.2.2.2.1] [.box [.str z.2.2.2.2.2.2.2.2.1, .str z.2.2.2.2.2.2.2.2.2]])))
      (none)⟩
  | 0 => some ⟨[1, 4, 9, 10, 11], [], fun vals st k => onPats [.lst tWrite, .bool, .lst tRange, .int .i64, .int .i64] [] vals st (fun p q => loopK impl_Touches_b0 Fuel (p.1, p.2.1, p.2.2.1, p.2.2.2.1, p.2.2.2.2.1) (Sum.elim (fun z => k (.exit 0) [.lst tWrite z.1, .bool z.2.1, .lst tRange z.2.2.1, .int .i64 z.2.2.2.1, .int .i64 z.2.2.2.2] []) (fun z => k .ret [.lst tWrite z.1, .bool z.2.1, .lst tRange z.2.2.1, .int .i64 z.2.2.2.1, .int .i64 z.2.2.2.2] [])))
      (none)⟩
  | _ => none

def impl_Touches_v2 : q18T → List AV := (fun x => [.lst tWrite x.1, .bool x.2.1, .bp 0 0, .lst tRange x.2.2.1, .int .i64 x.2.2.2.1, .int .i64 x.2.2.2.2.1, .lst tWrite x.2.2.2.2.2.1, .int .i64 x.2.2.2.2.2.2.1, .int .i64 x.2.2.2.2.2.2.2.1])
def impl_Touches_s2 : q18T → St := (fun x => [.box [.str x.2.2.2.2.2.2.2.2.1, .str x.2.2.2.2.2.2.2.2.2]])
def impl_Touches_e2 : (q18T ⊕ q18T) → Out × List AV × St := (Sum.elim (fun z => (.ret, [.lst tWrite z.1, .bool z.2.1, .bp 0 0, .lst tRange z.2.2.1, .int .i64 z.2.2.2.1, .int .i64 z.2.2.2.2.1, .lst tWrite z.2.2.2.2.2.1, .int .i64 z.2.2.2.2.2.2.1, .int .i64 z.2.2.2.2.2.2.2.1], [.box [.str z.2.2.2.2.2.2.2.2.1, .str z.2.2.2.2.2.2.2.2.2]])) (fun z => ((.exit 2), [.lst tWrite z.1, .bool z.2.1, .bp 0 0, .lst tRange z.2.2.1, .int .i64 z.2.2.2.1, .int .i64 z.2.2.2.2.1, .lst tWrite z.2.2.2.2.2.1, .int .i64 z.2.2.2.2.2.2.1, .int .i64 z.2.2.2.2.2.2.2.1], [.box [.str z.2.2.2.2.2.2.2.2.1, .str z.2.2.2.2.2.2.2.2.2]])))

theorem impl_Touches_bx2 (x : q18T) : exec G19 ⟨0, 27, impl_Touches_loops⟩ (loopBody Try.f180 2) (bodyK ⟨0, 27, impl_Touches_loops⟩ [1, 4, 6, 9, 10, 11, 15, 16, 17] []) (setEs (deads 27) [1, 4, 6, 9, 10, 11, 15, 16, 17] (impl_Touches_v2 x)) (impl_Touches_s2 x) = impl_Touches_b2 x (Sum.elim (fun y => some ⟨.norm, impl_Touches_v2 y, impl_Touches_s2 y⟩) fun z => some ⟨(impl_Touches_e2 z).1, (impl_Touches_e2 z).2.1, (impl_Touches_e2 z).2.2⟩) := by
  kernel_rfl

theorem impl_Touches_lo2 : ∀ sp, (impl_Touches_loops 2) = some sp → LoopOk G19 ⟨0, 27, impl_Touches_loops⟩ sp (loopBody Try.f180 2) := by
  intro sp hsp vals st k r h
  cases hsp
  dsimp only at h
  rcases onPats_inv2 h with ⟨p, q, rfl, rfl, h⟩ | h
  · exact loop_runs2 impl_Touches_bp2 impl_Touches_v2 impl_Touches_s2 impl_Touches_e2 (fun z => by rcases z with z | z <;> (intro h; cases h)) impl_Touches_bx2 Fuel (p.1, p.2.1, p.2.2.2.1, p.2.2.2.2.1, p.2.2.2.2.2.1, p.2.2.2.2.2.2.1, p.2.2.2.2.2.2.2.1, p.2.2.2.2.2.2.2.2.1, q.1.1, q.1.2.1) _ k r (fun z => by rcases z with z | z <;> rfl) h
  cases h

def impl_Touches_v0 : q19T → List AV := (fun x => [.lst tWrite x.1, .bool x.2.1, .lst tRange x.2.2.1, .int .i64 x.2.2.2.1, .int .i64 x.2.2.2.2])
def impl_Touches_s0 : q19T → St := (fun x => [])
def impl_Touches_e0 : (q19T ⊕ q19T) → Out × List AV × St := (Sum.elim (fun z => ((.exit 0), [.lst tWrite z.1, .bool z.2.1, .lst tRange z.2.2.1, .int .i64 z.2.2.2.1, .int .i64 z.2.2.2.2], [])) (fun z => (.ret, [.lst tWrite z.1, .bool z.2.1, .lst tRange z.2.2.1, .int .i64 z.2.2.2.1, .int .i64 z.2.2.2.2], [])))

theorem impl_Touches_bx0 (x : q19T) : exec G19 ⟨0, 27, impl_Touches_loops⟩ (loopBody Try.f180 0) (bodyK ⟨0, 27, impl_Touches_loops⟩ [1, 4, 9, 10, 11] []) (setEs (deads 27) [1, 4, 9, 10, 11] (impl_Touches_v0 x)) (impl_Touches_s0 x) = impl_Touches_b0 x (Sum.elim (fun y => some ⟨.norm, impl_Touches_v0 y, impl_Touches_s0 y⟩) fun z => some ⟨(impl_Touches_e0 z).1, (impl_Touches_e0 z).2.1, (impl_Touches_e0 z).2.2⟩) := by
  kernel_rfl

theorem impl_Touches_lo0 : ∀ sp, (impl_Touches_loops 0) = some sp → LoopOk G19 ⟨0, 27, impl_Touches_loops⟩ sp (loopBody Try.f180 0) := by
  intro sp hsp vals st k r h
  cases hsp
  dsimp only at h
  rcases onPats_inv2 h with ⟨p, q, rfl, rfl, h⟩ | h
  · exact loop_runs2 impl_Touches_bp0 impl_Touches_v0 impl_Touches_s0 impl_Touches_e0 (fun z => by rcases z with z | z <;> (intro h; cases h)) impl_Touches_bx0 Fuel (p.1, p.2.1, p.2.2.1, p.2.2.2.1, p.2.2.2.2.1) _ k r (fun z => by rcases z with z | z <;> rfl) h
  cases h

theorem impl_Touches_y (a0 : (List dRange)) (a1 : (List dWrite)) : execFn G19 impl_Touches_loops Try.f180 [.lst tRange a0, .lst tWrite a1] [] = impl_Touches_k a0 a1 (fun (y : Bool) => some ⟨.ret, [.bool y], []⟩) := by rw [impl_Touches_e]; kernel_rfl

theorem impl_Touches_l : LoopsOk G19 ⟨0, 27, impl_Touches_loops⟩ (Try.f180.body.getD .skip) :=
  loopsOk_of (ids := [2, 0]) (by kernel_rfl) (by kernel_rfl) ⟨impl_Touches_lo2, ⟨impl_Touches_lo0, trivial⟩⟩

theorem impl_Touches_c : Contract Try.prog 180 impl_Touches_g := by
  refine told G19_ok follows Try.func180 (c := Try.f180.body.getD .skip) (by kernel_rfl) ?_
  intro args s k r hk
  unfold impl_Touches_g at hk
  rcases onPats_inv hk with ⟨p, q, rfl, rfl⟩ | hk
  · exact ⟨impl_Touches_loops, impl_Touches_q p.1 p.2.1, impl_Touches_y p.1 p.2.1, impl_Touches_l⟩
  cases hk

def G20 : Glob := G19.add 180 impl_Touches_g

theorem G20_ok : GlobOk Try.prog G20 := G19_ok.add ⟨Try.f180, Try.func180, by kernel_rfl, by kernel_rfl⟩ impl_Touches_c



def impl_Ahead_loops : Nat → Option LoopSpec
  | _ => none

theorem impl_Ahead_y (a0 : Int) (a1 : Int) (a2 : Int) (a3 : Int) (a4 : (List dRange)) (a5 : (List dWrite)) (a6 : Bool) (a7 : ByteArray) (a8 : Int) (a9 : Int) (a10 : Int) (a11 : Int) (a12 : (List dRange)) (a13 : (List dWrite)) (a14 : Bool) (a15 : ByteArray) : execFn G20 impl_Ahead_loops Try.f104 [.agg [.int .i64 a0, .int .i64 a1, .int .i64 a2, .int .i64 a3, .lst tRange a4, .lst tWrite a5, .bool a6, .str a7], .agg [.int .i64 a8, .int .i64 a9, .int .i64 a10, .int .i64 a11, .lst tRange a12, .lst tWrite a13, .bool a14, .str a15]] [] = impl_Ahead_k (a0, (a1, (a2, (a3, (a4, (a5, (a6, a7))))))) (a8, (a9, (a10, (a11, (a12, (a13, (a14, a15))))))) (fun (y : Bool) => some ⟨.ret, [.bool y], []⟩) := by rw [impl_Ahead_e]; kernel_rfl

theorem impl_Ahead_l : LoopsOk G20 ⟨0, 15, impl_Ahead_loops⟩ (Try.f104.body.getD .skip) :=
  loopsOk_of (ids := []) (by kernel_rfl) (by kernel_rfl) trivial

theorem impl_Ahead_c : Contract Try.prog 104 impl_Ahead_g := by
  refine told G20_ok follows Try.func104 (c := Try.f104.body.getD .skip) (by kernel_rfl) ?_
  intro args s k r hk
  unfold impl_Ahead_g at hk
  rcases onPats_inv hk with ⟨p, q, rfl, rfl⟩ | hk
  · exact ⟨impl_Ahead_loops, impl_Ahead_q p.1.1 p.1.2.1 p.1.2.2.1 p.1.2.2.2.1 p.1.2.2.2.2.1 p.1.2.2.2.2.2.1 p.1.2.2.2.2.2.2.1 p.1.2.2.2.2.2.2.2.1 p.2.1.1 p.2.1.2.1 p.2.1.2.2.1 p.2.1.2.2.2.1 p.2.1.2.2.2.2.1 p.2.1.2.2.2.2.2.1 p.2.1.2.2.2.2.2.2.1 p.2.1.2.2.2.2.2.2.2.1, impl_Ahead_y p.1.1 p.1.2.1 p.1.2.2.1 p.1.2.2.2.1 p.1.2.2.2.2.1 p.1.2.2.2.2.2.1 p.1.2.2.2.2.2.2.1 p.1.2.2.2.2.2.2.2.1 p.2.1.1 p.2.1.2.1 p.2.1.2.2.1 p.2.1.2.2.2.1 p.2.1.2.2.2.2.1 p.2.1.2.2.2.2.2.1 p.2.1.2.2.2.2.2.2.1 p.2.1.2.2.2.2.2.2.2.1, impl_Ahead_l⟩
  cases hk

def G21 : Glob := G20.add 104 impl_Ahead_g

theorem G21_ok : GlobOk Try.prog G21 := G20_ok.add ⟨Try.f104, Try.func104, by kernel_rfl, by kernel_rfl⟩ impl_Ahead_c



def impl_isDone_loops : Nat → Option LoopSpec
  | _ => none

theorem impl_isDone_y (a0 : Int) (a1 : Int) (a2 : Int) (a3 : Int) (a4 : (List dRange)) (a5 : (List dWrite)) (a6 : Bool) (a7 : ByteArray) : execFn G21 impl_isDone_loops Try.f103 [.agg [.int .i64 a0, .int .i64 a1, .int .i64 a2, .int .i64 a3, .lst tRange a4, .lst tWrite a5, .bool a6, .str a7]] [] = impl_isDone_k (a0, (a1, (a2, (a3, (a4, (a5, (a6, a7))))))) (fun (y : Bool) => some ⟨.ret, [.bool y], []⟩) := by rw [impl_isDone_e]; kernel_rfl

theorem impl_isDone_l : LoopsOk G21 ⟨0, 6, impl_isDone_loops⟩ (Try.f103.body.getD .skip) :=
  loopsOk_of (ids := []) (by kernel_rfl) (by kernel_rfl) trivial

theorem impl_isDone_c : Contract Try.prog 103 impl_isDone_g := by
  refine told G21_ok follows Try.func103 (c := Try.f103.body.getD .skip) (by kernel_rfl) ?_
  intro args s k r hk
  unfold impl_isDone_g at hk
  rcases onPats_inv hk with ⟨p, q, rfl, rfl⟩ | hk
  · exact ⟨impl_isDone_loops, impl_isDone_q p.1.1 p.1.2.1 p.1.2.2.1 p.1.2.2.2.1 p.1.2.2.2.2.1 p.1.2.2.2.2.2.1 p.1.2.2.2.2.2.2.1 p.1.2.2.2.2.2.2.2.1, impl_isDone_y p.1.1 p.1.2.1 p.1.2.2.1 p.1.2.2.2.1 p.1.2.2.2.2.1 p.1.2.2.2.2.2.1 p.1.2.2.2.2.2.2.1 p.1.2.2.2.2.2.2.2.1, impl_isDone_l⟩
  cases hk

def G22 : Glob := G21.add 103 impl_isDone_g

theorem G22_ok : GlobOk Try.prog G22 := G21_ok.add ⟨Try.f103, Try.func103, by kernel_rfl, by kernel_rfl⟩ impl_isDone_c



def impl_InOf_1_loops : Nat → Option LoopSpec
  | _ => none

theorem impl_InOf_1_y (a0 : Int) (a1 : Int) (a2 : Int) (a3 : Int) (a4 : (List dRange)) (a5 : (List dWrite)) (a6 : Bool) (a7 : ByteArray) (a8 : Int) (a9 : Int) (a10 : Int) (a11 : Int) (a12 : (List dRange)) (a13 : (List dWrite)) (a14 : Bool) (a15 : ByteArray) : execFn G22 impl_InOf_1_loops Try.f101 [.agg [.int .i64 a0, .int .i64 a1, .int .i64 a2, .int .i64 a3, .lst tRange a4, .lst tWrite a5, .bool a6, .str a7], .bp 0 0] [.box [.int .i64 a8, .int .i64 a9, .int .i64 a10, .int .i64 a11, .lst tRange a12, .lst tWrite a13, .bool a14, .str a15]] = impl_InOf_1_k (a0, (a1, (a2, (a3, (a4, (a5, (a6, a7))))))) a8 a9 a10 a11 a12 a13 a14 a15 (fun (y : q29T) => some ⟨.ret, [.bool y.1], [.box [.int .i64 y.2.1, .int .i64 y.2.2.1, .int .i64 y.2.2.2.1, .int .i64 y.2.2.2.2.1, .lst tRange y.2.2.2.2.2.1, .lst tWrite y.2.2.2.2.2.2.1, .bool y.2.2.2.2.2.2.2.1, .str y.2.2.2.2.2.2.2.2]]⟩) := by rw [impl_InOf_1_e]; kernel_rfl

theorem impl_InOf_1_l : LoopsOk G22 ⟨1, 15, impl_InOf_1_loops⟩ (Try.f101.body.getD .skip) :=
  loopsOk_of (ids := []) (by kernel_rfl) (by kernel_rfl) trivial

theorem impl_InOf_1_c : Contract Try.prog 101 impl_InOf_1_g := by
  refine told G22_ok follows Try.func101 (c := Try.f101.body.getD .skip) (by kernel_rfl) ?_
  intro args s k r hk
  unfold impl_InOf_1_g at hk
  rcases onPats_inv hk with ⟨p, q, rfl, rfl⟩ | hk
  · exact ⟨impl_InOf_1_loops, impl_InOf_1_q p.1.1 p.1.2.1 p.1.2.2.1 p.1.2.2.2.1 p.1.2.2.2.2.1 p.1.2.2.2.2.2.1 p.1.2.2.2.2.2.2.1 p.1.2.2.2.2.2.2.2.1 q.1.1 q.1.2.1 q.1.2.2.1 q.1.2.2.2.1 q.1.2.2.2.2.1 q.1.2.2.2.2.2.1 q.1.2.2.2.2.2.2.1 q.1.2.2.2.2.2.2.2.1, impl_InOf_1_y p.1.1 p.1.2.1 p.1.2.2.1 p.1.2.2.2.1 p.1.2.2.2.2.1 p.1.2.2.2.2.2.1 p.1.2.2.2.2.2.2.1 p.1.2.2.2.2.2.2.2.1 q.1.1 q.1.2.1 q.1.2.2.1 q.1.2.2.2.1 q.1.2.2.2.2.1 q.1.2.2.2.2.2.1 q.1.2.2.2.2.2.2.1 q.1.2.2.2.2.2.2.2.1, impl_InOf_1_l⟩
  cases hk

def G23 : Glob := G22.add 101 impl_InOf_1_g

theorem G23_ok : GlobOk Try.prog G23 := G22_ok.add ⟨Try.f101, Try.func101, by kernel_rfl, by kernel_rfl⟩ impl_InOf_1_c



def slices_IndexFunc_Txn_InOf_1_loops : Nat → Option LoopSpec
  | 0 => some ⟨[0, 1, 4, 7, 8], [], fun vals st k => onPats [.lst tTxn, .fn 101 [.bp 0 0], .int .i64, .int .i64, .int .i64] [.box [.int .i64, .int .i64, .int .i64, .int .i64, .lst tRange, .lst tWrite, .bool, .str]] vals st (fun p q => loopK slices_IndexFunc_Txn_InOf_1_b0 Fuel (p.1, p.2.2.1, p.2.2.2.1, p.2.2.2.2.1, q.1.1, q.1.2.1, q.1.2.2.1, q.1.2.2.2.1, q.1.2.2.2.2.1, q.1.2.2.2.2.2.1, q.1.2.2.2.2.2.2.1, q.1.2.2.2.2.2.2.2.1) (Sum.elim (fun z => k .ret [.lst tTxn z.1, .fn 101 [.bp 0 0], .int .i64 z.2.1, .int .i64 z.2.2.1, .int .i64 z.2.2.2.1] [.box [.int .i64 z.2.2.2.2.1, .int .i64 z.2.2.2.2.2.1, .int .i64 z.2.2.2.2.2.2.1, .int .i64 z.2.2.2.2.2.2.2.1, .lst tRange z.2.2.2.2.2.2.2.2.1, .lst tWrite z.2.2.2.2.2.2.2.2.2.1, .bool z.2.2.2.2.2.2.2.2.2.2.1, .str z.2.2.2.2.2.2.2.2.2.2.2]]) (fun z => k (.exit 0) [.lst tTxn z.1, .fn 101 [.bp 0 0], .int .i64 z.2.1, .int .i64 z.2.2.1, .int .i64 z.2.2.2.1] [.box [.int .i64 z.2.2.2.2.1, .int .i64 z.2.2.2.2.2.1, .int .i64 z.2.2.2.2.2.2.1, .int .i64 z.2.2.2.2.2.2.2.1, .lst tRange z.2.2.2.2.2.2.2.2.1, .lst tWrite z.2.2.2.2.2.2.2.2.2.1, .bool z.2.2.2.2.2.2.2.2.2.2.1, .str z.2.2.2.2.2.2.2.2.2.2.2]])))
      (none)⟩
  | _ => none

def slices_IndexFunc_Txn_InOf_1_v0 : q15T → List AV := (fun x => [.lst tTxn x.1, .fn 101 [.bp 0 0], .int .i64 x.2.1, .int .i64 x.2.2.1, .int .i64 x.2.2.2.1])
def slices_IndexFunc_Txn_InOf_1_s0 : q15T → St := (fun x => [.box [.int .i64 x.2.2.2.2.1, .int .i64 x.2.2.2.2.2.1, .int .i64 x.2.2.2.2.2.2.1, .int .i64 x.2.2.2.2.2.2.2.1, .lst tRange x.2.2.2.2.2.2.2.2.1, .lst tWrite x.2.2.2.2.2.2.2.2.2.1, .bool x.2.2.2.2.2.2.2.2.2.2.1, .str x.2.2.2.2.2.2.2.2.2.2.2]])
def slices_IndexFunc_Txn_InOf_1_e0 : (q15T ⊕ q15T) → Out × List AV × St := (Sum.elim (fun z => (.ret, [.lst tTxn z.1, .fn 101 [.bp 0 0], .int .i64 z.2.1, .int .i64 z.2.2.1, .int .i64 z.2.2.2.1], [.box [.int .i64 z.2.2.2.2.1, .int .i64 z.2.2.2.2.2.1, .int .i64 z.2.2.2.2.2.2.1, .int .i64 z.2.2.2.2.2.2.2.1, .lst tRange z.2.2.2.2.2.2.2.2.1, .lst tWrite z.2.2.2.2.2.2.2.2.2.1, .bool z.2.2.2.2.2.2.2.2.2.2.1, .str z.2.2.2.2.2.2.2.2.2.2.2]])) (fun z => ((.exit 0), [.lst tTxn z.1, .fn 101 [.bp 0 0], .int .i64 z.2.1, .int .i64 z.2.2.1, .int .i64 z.2.2.2.1], [.box [.int .i64 z.2.2.2.2.1, .int .i64 z.2.2.2.2.2.1, .int .i64 z.2.2.2.2.2.2.1, .int .i64 z.2.2.2.2.2.2.2.1, .lst tRange z.2.2.2.2.2.2.2.2.1, .lst tWrite z.2.2.2.2.2.2.2.2.2.1, .bool z.2.2.2.2.2.2.2.2.2.2.1, .str z.2.2.2.2.2.2.2.2.2.2.2]])))

theorem slices_IndexFunc_Txn_InOf_1_bx0 (x : q15T) : exec G23 ⟨1, 19, slices_IndexFunc_Txn_InOf_1_loops⟩ (loopBody Try.f81 0) (bodyK ⟨1, 19, slices_IndexFunc_Txn_InOf_1_loops⟩ [0, 1, 4, 7, 8] []) (setEs (deads 19) [0, 1, 4, 7, 8] (slices_IndexFunc_Txn_InOf_1_v0 x)) (slices_IndexFunc_Txn_InOf_1_s0 x) = slices_IndexFunc_Txn_InOf_1_b0 x (Sum.elim (fun y => some ⟨.norm, slices_IndexFunc_Txn_InOf_1_v0 y, slices_IndexFunc_Txn_InOf_1_s0 y⟩) fun z => some ⟨(slices_IndexFunc_Txn_InOf_1_e0 z).1, (slices_IndexFunc_Txn_InOf_1_e0 z).2.1, (slices_IndexFunc_Txn_InOf_1_e0 z).2.2⟩) := by
  kernel_rfl

theorem slices_IndexFunc_Txn_InOf_1_lo0 : ∀ sp, (slices_IndexFunc_Txn_InOf_1_loops 0) = some sp → LoopOk G23 ⟨1, 19, slices_IndexFunc_Txn_InOf_1_loops⟩ sp (loopBody Try.f81 0) := by
  intro sp hsp vals st k r h
  cases hsp
  dsimp only at h
  rcases onPats_inv2 h with ⟨p, q, rfl, rfl, h⟩ | h
  · exact loop_runs2 slices_IndexFunc_Txn_InOf_1_bp0 slices_IndexFunc_Txn_InOf_1_v0 slices_IndexFunc_Txn_InOf_1_s0 slices_IndexFunc_Txn_InOf_1_e0 (fun z => by rcases z with z | z <;> (intro h; cases h)) slices_IndexFunc_Txn_InOf_1_bx0 Fuel (p.1, p.2.2.1, p.2.2.2.1, p.2.2.2.2.1, q.1.1, q.1.2.1, q.1.2.2.1, q.1.2.2.2.1, q.1.2.2.2.2.1, q.1.2.2.2.2.2.1, q.1.2.2.2.2.2.2.1, q.1.2.2.2.2.2.2.2.1) _ k r (fun z => by rcases z with z | z <;> rfl) h
  cases h

theorem slices_IndexFunc_Txn_InOf_1_y (a0 : (List dTxn)) (a1 : Int) (a2 : Int) (a3 : Int) (a4 : Int) (a5 : (List dRange)) (a6 : (List dWrite)) (a7 : Bool) (a8 : ByteArray) : execFn G23 slices_IndexFunc_Txn_InOf_1_loops Try.f81 [.lst tTxn a0, .fn 101 [.bp 0 0]] [.box [.int .i64 a1, .int .i64 a2, .int .i64 a3, .int .i64 a4, .lst tRange a5, .lst tWrite a6, .bool a7, .str a8]] = slices_IndexFunc_Txn_InOf_1_k a0 a1 a2 a3 a4 a5 a6 a7 a8 (fun (y : q42T) => some ⟨.ret, [.int .i64 y.1], [.box [.int .i64 y.2.1, .int .i64 y.2.2.1, .int .i64 y.2.2.2.1, .int .i64 y.2.2.2.2.1, .lst tRange y.2.2.2.2.2.1, .lst tWrite y.2.2.2.2.2.2.1, .bool y.2.2.2.2.2.2.2.1, .str y.2.2.2.2.2.2.2.2]]⟩) := by rw [slices_IndexFunc_Txn_InOf_1_e]; kernel_rfl

theorem slices_IndexFunc_Txn_InOf_1_l : LoopsOk G23 ⟨1, 19, slices_IndexFunc_Txn_InOf_1_loops⟩ (Try.f81.body.getD .skip) :=
  loopsOk_of (ids := [0]) (by kernel_rfl) (by kernel_rfl) ⟨slices_IndexFunc_Txn_InOf_1_lo0, trivial⟩

theorem slices_IndexFunc_Txn_c : Contract Try.prog 81 slices_IndexFunc_Txn_g := by
  refine told G23_ok follows Try.func81 (c := Try.f81.body.getD .skip) (by kernel_rfl) ?_
  intro args s k r hk
  unfold slices_IndexFunc_Txn_g at hk
  rcases onPats_inv hk with ⟨p, q, rfl, rfl⟩ | hk
  · exact ⟨slices_IndexFunc_Txn_InOf_1_loops, slices_IndexFunc_Txn_InOf_1_q p.1 q.1.1 q.1.2.1 q.1.2.2.1 q.1.2.2.2.1 q.1.2.2.2.2.1 q.1.2.2.2.2.2.1 q.1.2.2.2.2.2.2.1 q.1.2.2.2.2.2.2.2.1, slices_IndexFunc_Txn_InOf_1_y p.1 q.1.1 q.1.2.1 q.1.2.2.1 q.1.2.2.2.1 q.1.2.2.2.2.1 q.1.2.2.2.2.2.1 q.1.2.2.2.2.2.2.1 q.1.2.2.2.2.2.2.2.1, slices_IndexFunc_Txn_InOf_1_l⟩
  cases hk

def G24 : Glob := G23.add 81 slices_IndexFunc_Txn_g

theorem G24_ok : GlobOk Try.prog G24 := G23_ok.add ⟨Try.f81, Try.func81, by kernel_rfl, by kernel_rfl⟩ slices_IndexFunc_Txn_c



def slices_ContainsFunc_Txn_InOf_1_loops : Nat → Option LoopSpec
  | _ => none

theorem slices_ContainsFunc_Txn_InOf_1_y (a0 : (List dTxn)) (a1 : Int) (a2 : Int) (a3 : Int) (a4 : Int) (a5 : (List dRange)) (a6 : (List dWrite)) (a7 : Bool) (a8 : ByteArray) : execFn G24 slices_ContainsFunc_Txn_InOf_1_loops Try.f178 [.lst tTxn a0, .fn 101 [.bp 0 0]] [.box [.int .i64 a1, .int .i64 a2, .int .i64 a3, .int .i64 a4, .lst tRange a5, .lst tWrite a6, .bool a7, .str a8]] = slices_ContainsFunc_Txn_InOf_1_k a0 a1 a2 a3 a4 a5 a6 a7 a8 (fun (y : q29T) => some ⟨.ret, [.bool y.1], [.box [.int .i64 y.2.1, .int .i64 y.2.2.1, .int .i64 y.2.2.2.1, .int .i64 y.2.2.2.2.1, .lst tRange y.2.2.2.2.2.1, .lst tWrite y.2.2.2.2.2.2.1, .bool y.2.2.2.2.2.2.2.1, .str y.2.2.2.2.2.2.2.2]]⟩) := by rw [slices_ContainsFunc_Txn_InOf_1_e]; kernel_rfl

theorem slices_ContainsFunc_Txn_InOf_1_l : LoopsOk G24 ⟨1, 9, slices_ContainsFunc_Txn_InOf_1_loops⟩ (Try.f178.body.getD .skip) :=
  loopsOk_of (ids := []) (by kernel_rfl) (by kernel_rfl) trivial

theorem slices_ContainsFunc_Txn_c : Contract Try.prog 178 slices_ContainsFunc_Txn_g := by
  refine told G24_ok follows Try.func178 (c := Try.f178.body.getD .skip) (by kernel_rfl) ?_
  intro args s k r hk
  unfold slices_ContainsFunc_Txn_g at hk
  rcases onPats_inv hk with ⟨p, q, rfl, rfl⟩ | hk
  · exact ⟨slices_ContainsFunc_Txn_InOf_1_loops, slices_ContainsFunc_Txn_InOf_1_q p.1 q.1.1 q.1.2.1 q.1.2.2.1 q.1.2.2.2.1 q.1.2.2.2.2.1 q.1.2.2.2.2.2.1 q.1.2.2.2.2.2.2.1 q.1.2.2.2.2.2.2.2.1, slices_ContainsFunc_Txn_InOf_1_y p.1 q.1.1 q.1.2.1 q.1.2.2.1 q.1.2.2.2.1 q.1.2.2.2.2.1 q.1.2.2.2.2.2.1 q.1.2.2.2.2.2.2.1 q.1.2.2.2.2.2.2.2.1, slices_ContainsFunc_Txn_InOf_1_l⟩
  cases hk

def G25 : Glob := G24.add 178 slices_ContainsFunc_Txn_g

theorem G25_ok : GlobOk Try.prog G25 := G24_ok.add ⟨Try.f178, Try.func178, by kernel_rfl, by kernel_rfl⟩ slices_ContainsFunc_Txn_c



def impl_some_InOf_1_loops : Nat → Option LoopSpec
  | _ => none

theorem impl_some_InOf_1_y (a0 : (List dTxn)) (a1 : Int) (a2 : Int) (a3 : Int) (a4 : Int) (a5 : (List dRange)) (a6 : (List dWrite)) (a7 : Bool) (a8 : ByteArray) : execFn G25 impl_some_InOf_1_loops Try.f100 [.lst tTxn a0, .fn 101 [.bp 0 0]] [.box [.int .i64 a1, .int .i64 a2, .int .i64 a3, .int .i64 a4, .lst tRange a5, .lst tWrite a6, .bool a7, .str a8]] = impl_some_InOf_1_k a0 a1 a2 a3 a4 a5 a6 a7 a8 (fun (y : q29T) => some ⟨.ret, [.bool y.1], [.box [.int .i64 y.2.1, .int .i64 y.2.2.1, .int .i64 y.2.2.2.1, .int .i64 y.2.2.2.2.1, .lst tRange y.2.2.2.2.2.1, .lst tWrite y.2.2.2.2.2.2.1, .bool y.2.2.2.2.2.2.2.1, .str y.2.2.2.2.2.2.2.2]]⟩) := by rw [impl_some_InOf_1_e]; kernel_rfl

theorem impl_some_InOf_1_l : LoopsOk G25 ⟨1, 8, impl_some_InOf_1_loops⟩ (Try.f100.body.getD .skip) :=
  loopsOk_of (ids := []) (by kernel_rfl) (by kernel_rfl) trivial

theorem impl_some_c : Contract Try.prog 100 impl_some_g := by
  refine told G25_ok follows Try.func100 (c := Try.f100.body.getD .skip) (by kernel_rfl) ?_
  intro args s k r hk
  unfold impl_some_g at hk
  rcases onPats_inv hk with ⟨p, q, rfl, rfl⟩ | hk
  · exact ⟨impl_some_InOf_1_loops, impl_some_InOf_1_q p.1 q.1.1 q.1.2.1 q.1.2.2.1 q.1.2.2.2.1 q.1.2.2.2.2.1 q.1.2.2.2.2.2.1 q.1.2.2.2.2.2.2.1 q.1.2.2.2.2.2.2.2.1, impl_some_InOf_1_y p.1 q.1.1 q.1.2.1 q.1.2.2.1 q.1.2.2.2.1 q.1.2.2.2.2.1 q.1.2.2.2.2.2.1 q.1.2.2.2.2.2.2.1 q.1.2.2.2.2.2.2.2.1, impl_some_InOf_1_l⟩
  cases hk

def G26 : Glob := G25.add 100 impl_some_g

theorem G26_ok : GlobOk Try.prog G26 := G25_ok.add ⟨Try.f100, Try.func100, by kernel_rfl, by kernel_rfl⟩ impl_some_c



def impl_InOf_loops : Nat → Option LoopSpec
  | _ => none

theorem impl_InOf_y (a0 : Int) (a1 : Int) (a2 : Int) (a3 : Int) (a4 : (List dRange)) (a5 : (List dWrite)) (a6 : Bool) (a7 : ByteArray) (a8 : (List dTxn)) : execFn G26 impl_InOf_loops Try.f27 [.agg [.int .i64 a0, .int .i64 a1, .int .i64 a2, .int .i64 a3, .lst tRange a4, .lst tWrite a5, .bool a6, .str a7], .lst tTxn a8] [] = impl_InOf_k (a0, (a1, (a2, (a3, (a4, (a5, (a6, a7))))))) a8 (fun (y : Bool) => some ⟨.ret, [.bool y], []⟩) := by rw [impl_InOf_e]; kernel_rfl

theorem impl_InOf_l : LoopsOk G26 ⟨0, 8, impl_InOf_loops⟩ (Try.f27.body.getD .skip) :=
  loopsOk_of (ids := []) (by kernel_rfl) (by kernel_rfl) trivial

theorem impl_InOf_c : Contract Try.prog 27 impl_InOf_g := by
  refine told G26_ok follows Try.func27 (c := Try.f27.body.getD .skip) (by kernel_rfl) ?_
  intro args s k r hk
  unfold impl_InOf_g at hk
  rcases onPats_inv hk with ⟨p, q, rfl, rfl⟩ | hk
  · exact ⟨impl_InOf_loops, impl_InOf_q p.1.1 p.1.2.1 p.1.2.2.1 p.1.2.2.2.1 p.1.2.2.2.2.1 p.1.2.2.2.2.2.1 p.1.2.2.2.2.2.2.1 p.1.2.2.2.2.2.2.2.1 p.2.1, impl_InOf_y p.1.1 p.1.2.1 p.1.2.2.1 p.1.2.2.2.1 p.1.2.2.2.2.1 p.1.2.2.2.2.2.1 p.1.2.2.2.2.2.2.1 p.1.2.2.2.2.2.2.2.1 p.2.1, impl_InOf_l⟩
  cases hk

def G27 : Glob := G26.add 27 impl_InOf_g

theorem G27_ok : GlobOk Try.prog G27 := G26_ok.add ⟨Try.f27, Try.func27, by kernel_rfl, by kernel_rfl⟩ impl_InOf_c



def impl_OutOf_1_loops : Nat → Option LoopSpec
  | _ => none

theorem impl_OutOf_1_y (a0 : Int) (a1 : Int) (a2 : Int) (a3 : Int) (a4 : (List dRange)) (a5 : (List dWrite)) (a6 : Bool) (a7 : ByteArray) (a8 : Int) (a9 : Int) (a10 : Int) (a11 : Int) (a12 : (List dRange)) (a13 : (List dWrite)) (a14 : Bool) (a15 : ByteArray) : execFn G27 impl_OutOf_1_loops Try.f105 [.agg [.int .i64 a0, .int .i64 a1, .int .i64 a2, .int .i64 a3, .lst tRange a4, .lst tWrite a5, .bool a6, .str a7], .bp 0 0] [.box [.int .i64 a8, .int .i64 a9, .int .i64 a10, .int .i64 a11, .lst tRange a12, .lst tWrite a13, .bool a14, .str a15]] = impl_OutOf_1_k (a0, (a1, (a2, (a3, (a4, (a5, (a6, a7))))))) a8 a9 a10 a11 a12 a13 a14 a15 (fun (y : q29T) => some ⟨.ret, [.bool y.1], [.box [.int .i64 y.2.1, .int .i64 y.2.2.1, .int .i64 y.2.2.2.1, .int .i64 y.2.2.2.2.1, .lst tRange y.2.2.2.2.2.1, .lst tWrite y.2.2.2.2.2.2.1, .bool y.2.2.2.2.2.2.2.1, .str y.2.2.2.2.2.2.2.2]]⟩) := by rw [impl_OutOf_1_e]; kernel_rfl

theorem impl_OutOf_1_l : LoopsOk G27 ⟨1, 11, impl_OutOf_1_loops⟩ (Try.f105.body.getD .skip) :=
  loopsOk_of (ids := []) (by kernel_rfl) (by kernel_rfl) trivial

theorem impl_OutOf_1_c : Contract Try.prog 105 impl_OutOf_1_g := by
  refine told G27_ok follows Try.func105 (c := Try.f105.body.getD .skip) (by kernel_rfl) ?_
  intro args s k r hk
  unfold impl_OutOf_1_g at hk
  rcases onPats_inv hk with ⟨p, q, rfl, rfl⟩ | hk
  · exact ⟨impl_OutOf_1_loops, impl_OutOf_1_q p.1.1 p.1.2.1 p.1.2.2.1 p.1.2.2.2.1 p.1.2.2.2.2.1 p.1.2.2.2.2.2.1 p.1.2.2.2.2.2.2.1 p.1.2.2.2.2.2.2.2.1 q.1.1 q.1.2.1 q.1.2.2.1 q.1.2.2.2.1 q.1.2.2.2.2.1 q.1.2.2.2.2.2.1 q.1.2.2.2.2.2.2.1 q.1.2.2.2.2.2.2.2.1, impl_OutOf_1_y p.1.1 p.1.2.1 p.1.2.2.1 p.1.2.2.2.1 p.1.2.2.2.2.1 p.1.2.2.2.2.2.1 p.1.2.2.2.2.2.2.1 p.1.2.2.2.2.2.2.2.1 q.1.1 q.1.2.1 q.1.2.2.1 q.1.2.2.2.1 q.1.2.2.2.2.1 q.1.2.2.2.2.2.1 q.1.2.2.2.2.2.2.1 q.1.2.2.2.2.2.2.2.1, impl_OutOf_1_l⟩
  cases hk

def G28 : Glob := G27.add 105 impl_OutOf_1_g

theorem G28_ok : GlobOk Try.prog G28 := G27_ok.add ⟨Try.f105, Try.func105, by kernel_rfl, by kernel_rfl⟩ impl_OutOf_1_c



def slices_IndexFunc_Txn_OutOf_1_loops : Nat → Option LoopSpec
  | 0 => some ⟨[0, 1, 4, 7, 8], [], fun vals st k => onPats [.lst tTxn, .fn 105 [.bp 0 0], .int .i64, .int .i64, .int .i64] [.box [.int .i64, .int .i64, .int .i64, .int .i64, .lst tRange, .lst tWrite, .bool, .str]] vals st (fun p q => loopK slices_IndexFunc_Txn_OutOf_1_b0 Fuel (p.1, p.2.2.1, p.2.2.2.1, p.2.2.2.2.1, q.1.1, q.1.2.1, q.1.2.2.1, q.1.2.2.2.1, q.1.2.2.2.2.1, q.1.2.2.2.2.2.1, q.1.2.2.2.2.2.2.1, q.1.2.2.2.2.2.2.2.1) (Sum.elim (fun z => k .ret [.lst tTxn z.1, .fn 105 [.bp 0 0], .int .i64 z.2.1, .int .i64 z.2.2.1, .int .i64 z.2.2.2.1] [.box [.int .i64 z.2.2.2.2.1, .int .i64 z.2.2.2.2.2.1, .int .i64 z.2.2.2.2.2.2.1, .int .i64 z.2.2.2.2.2.2.2.1, .lst tRange z.2.2.2.2.2.2.2.2.1, .lst tWrite z.2.2.2.2.2.2.2.2.2.1, .bool z.2.2.2.2.2.2.2.2.2.2.1, .str z.2.2.2.2.2.2.2.2.2.2.2]]) (fun z => k (.exit 0) [.lst tTxn z.1, .fn 105 [.bp 0 0], .int .i64 z.2.1, .int .i64 z.2.2.1, .int .i64 z.2.2.2.1] [.box [.int .i64 z.2.2.2.2.1, .int .i64 z.2.2.2.2.2.1, .int .i64 z.2.2.2.2.2.2.1, .int .i64 z.2.2.2.2.2.2.2.1, .lst tRange z.2.2.2.2.2.2.2.2.1, .lst tWrite z.2.2.2.2.2.2.2.2.2.1, .bool z.2.2.2.2.2.2.2.2.2.2.1, .str z.2.2.2.2.2.2.2.2.2.2.2]])))
      (none)⟩
  | _ => none

def slices_IndexFunc_Txn_OutOf_1_v0 : q15T → List AV := (fun x => [.lst tTxn x.1, .fn 105 [.bp 0 0], .int .i64 x.2.1, .int .i64 x.2.2.1, .int .i64 x.2.2.2.1])
def slices_IndexFunc_Txn_OutOf_1_s0 : q15T → St := (fun x => [.box [.int .i64 x.2.2.2.2.1, .int .i64 x.2.2.2.2.2.1, .int .i64 x.2.2.2.2.2.2.1, .int .i64 x.2.2.2.2.2.2.2.1, .lst tRange x.2.2.2.2.2.2.2.2.1, .lst tWrite x.2.2.2.2.2.2.2.2.2.1, .bool x.2.2.2.2.2.2.2.2.2.2.1, .str x.2.2.2.2.2.2.2.2.2.2.2]])
def slices_IndexFunc_Txn_OutOf_1_e0 : (q15T ⊕ q15T) → Out × List AV × St := (Sum.elim (fun z => (.ret, [.lst tTxn z.1, .fn 105 [.bp 0 0], .int .i64 z.2.1, .int .i64 z.2.2.1, .int .i64 z.2.2.2.1], [.box [.int .i64 z.2.2.2.2.1, .int .i64 z.2.2.2.2.2.1, .int .i64 z.2.2.2.2.2.2.1, .int .i64 z.2.2.2.2.2.2.2.1, .lst tRange z.2.2.2.2.2.2.2.2.1, .lst tWrite z.2.2.2.2.2.2.2.2.2.1, .bool z.2.2.2.2.2.2.2.2.2.2.1, .str z.2.2.2.2.2.2.2.2.2.2.2]])) (fun z => ((.exit 0), [.lst tTxn z.1, .fn 105 [.bp 0 0], .int .i64 z.2.1, .int .i64 z.2.2.1, .int .i64 z.2.2.2.1], [.box [.int .i64 z.2.2.2.2.1, .int .i64 z.2.2.2.2.2.1, .int .i64 z.2.2.2.2.2.2.1, .int .i64 z.2.2.2.2.2.2.2.1, .lst tRange z.2.2.2.2.2.2.2.2.1, .lst tWrite z.2.2.2.2.2.2.2.2.2.1, .bool z.2.2.2.2.2.2.2.2.2.2.1, .str z.2.2.2.2.2.2.2.2.2.2.2]])))

theorem slices_IndexFunc_Txn_OutOf_1_bx0 (x : q15T) : exec G28 ⟨1, 19, slices_IndexFunc_Txn_OutOf_1_loops⟩ (loopBody Try.f81 0) (bodyK ⟨1, 19, slices_IndexFunc_Txn_OutOf_1_loops⟩ [0, 1, 4, 7, 8] []) (setEs (deads 19) [0, 1, 4, 7, 8] (slices_IndexFunc_Txn_OutOf_1_v0 x)) (slices_IndexFunc_Txn_OutOf_1_s0 x) = slices_IndexFunc_Txn_OutOf_1_b0 x (Sum.elim (fun y => some ⟨.norm, slices_IndexFunc_Txn_OutOf_1_v0 y, slices_IndexFunc_Txn_OutOf_1_s0 y⟩) fun z => some ⟨(slices_IndexFunc_Txn_OutOf_1_e0 z).1, (slices_IndexFunc_Txn_OutOf_1_e0 z).2.1, (slices_IndexFunc_Txn_OutOf_1_e0 z).2.2⟩) := by
  kernel_rfl

theorem slices_IndexFunc_Txn_OutOf_1_lo0 : ∀ sp, (slices_IndexFunc_Txn_OutOf_1_loops 0) = some sp → LoopOk G28 ⟨1, 19, slices_IndexFunc_Txn_OutOf_1_loops⟩ sp (loopBody Try.f81 0) := by
  intro sp hsp vals st k r h
  cases hsp
  dsimp only at h
  rcases onPats_inv2 h with ⟨p, q, rfl, rfl, h⟩ | h
  · exact loop_runs2 slices_IndexFunc_Txn_OutOf_1_bp0 slices_IndexFunc_Txn_OutOf_1_v0 slices_IndexFunc_Txn_OutOf_1_s0 slices_IndexFunc_Txn_OutOf_1_e0 (fun z => by rcases z with z | z <;> (intro h; cases h)) slices_IndexFunc_Txn_OutOf_1_bx0 Fuel (p.1, p.2.2.1, p.2.2.2.1, p.2.2.2.2.1, q.1.1, q.1.2.1, q.1.2.2.1, q.1.2.2.2.1, q.1.2.2.2.2.1, q.1.2.2.2.2.2.1, q.1.2.2.2.2.2.2.1, q.1.2.2.2.2.2.2.2.1) _ k r (fun z => by rcases z with z | z <;> rfl) h
  cases h

theorem slices_IndexFunc_Txn_OutOf_1_y (a0 : (List dTxn)) (a1 : Int) (a2 : Int) (a3 : Int) (a4 : Int) (a5 : (List dRange)) (a6 : (List dWrite)) (a7 : Bool) (a8 : ByteArray) : execFn G28 slices_IndexFunc_Txn_OutOf_1_loops Try.f81 [.lst tTxn a0, .fn 105 [.bp 0 0]] [.box [.int .i64 a1, .int .i64 a2, .int .i64 a3, .int .i64 a4, .lst tRange a5, .lst tWrite a6, .bool a7, .str a8]] = slices_IndexFunc_Txn_OutOf_1_k a0 a1 a2 a3 a4 a5 a6 a7 a8 (fun (y : q42T) => some ⟨.ret, [.int .i64 y.1], [.box [.int .i64 y.2.1, .int .i64 y.2.2.1, .int .i64 y.2.2.2.1, .int .i64 y.2.2.2.2.1, .lst tRange y.2.2.2.2.2.1, .lst tWrite y.2.2.2.2.2.2.1, .bool y.2.2.2.2.2.2.2.1, .str y.2.2.2.2.2.2.2.2]]⟩) := by rw [slices_IndexFunc_Txn_OutOf_1_e]; kernel_rfl

theorem slices_IndexFunc_Txn_OutOf_1_l : LoopsOk G28 ⟨1, 19, slices_IndexFunc_Txn_OutOf_1_loops⟩ (Try.f81.body.getD .skip) :=
  loopsOk_of (ids := [0]) (by kernel_rfl) (by kernel_rfl) ⟨slices_IndexFunc_Txn_OutOf_1_lo0, trivial⟩

theorem slices_IndexFunc_Txn_c2 : Contract Try.prog 81 slices_IndexFunc_Txn_g2 := by
  refine told2 G28_ok follows Try.func81 (c := Try.f81.body.getD .skip) (by kernel_rfl) slices_IndexFunc_Txn_c ?_
  intro args s k r hk
  unfold slices_IndexFunc_Txn_g2 at hk
  rcases onPats_inv hk with ⟨p, q, rfl, rfl⟩ | hk
  · exact .inl ⟨slices_IndexFunc_Txn_OutOf_1_loops, slices_IndexFunc_Txn_OutOf_1_q p.1 q.1.1 q.1.2.1 q.1.2.2.1 q.1.2.2.2.1 q.1.2.2.2.2.1 q.1.2.2.2.2.2.1 q.1.2.2.2.2.2.2.1 q.1.2.2.2.2.2.2.2.1, slices_IndexFunc_Txn_OutOf_1_y p.1 q.1.1 q.1.2.1 q.1.2.2.1 q.1.2.2.2.1 q.1.2.2.2.2.1 q.1.2.2.2.2.2.1 q.1.2.2.2.2.2.2.1 q.1.2.2.2.2.2.2.2.1, slices_IndexFunc_Txn_OutOf_1_l⟩
  exact .inr hk

def G29 : Glob := G28.add 81 slices_IndexFunc_Txn_g2

theorem G29_ok : GlobOk Try.prog G29 := G28_ok.add ⟨Try.f81, Try.func81, by kernel_rfl, by kernel_rfl⟩ slices_IndexFunc_Txn_c2



def slices_ContainsFunc_Txn_OutOf_1_loops : Nat → Option LoopSpec
  | _ => none

theorem slices_ContainsFunc_Txn_OutOf_1_y (a0 : (List dTxn)) (a1 : Int) (a2 : Int) (a3 : Int) (a4 : Int) (a5 : (List dRange)) (a6 : (List dWrite)) (a7 : Bool) (a8 : ByteArray) : execFn G29 slices_ContainsFunc_Txn_OutOf_1_loops Try.f178 [.lst tTxn a0, .fn 105 [.bp 0 0]] [.box [.int .i64 a1, .int .i64 a2, .int .i64 a3, .int .i64 a4, .lst tRange a5, .lst tWrite a6, .bool a7, .str a8]] = slices_ContainsFunc_Txn_OutOf_1_k a0 a1 a2 a3 a4 a5 a6 a7 a8 (fun (y : q29T) => some ⟨.ret, [.bool y.1], [.box [.int .i64 y.2.1, .int .i64 y.2.2.1, .int .i64 y.2.2.2.1, .int .i64 y.2.2.2.2.1, .lst tRange y.2.2.2.2.2.1, .lst tWrite y.2.2.2.2.2.2.1, .bool y.2.2.2.2.2.2.2.1, .str y.2.2.2.2.2.2.2.2]]⟩) := by rw [slices_ContainsFunc_Txn_OutOf_1_e]; kernel_rfl

theorem slices_ContainsFunc_Txn_OutOf_1_l : LoopsOk G29 ⟨1, 9, slices_ContainsFunc_Txn_OutOf_1_loops⟩ (Try.f178.body.getD .skip) :=
  loopsOk_of (ids := []) (by kernel_rfl) (by kernel_rfl) trivial

theorem slices_ContainsFunc_Txn_c2 : Contract Try.prog 178 slices_ContainsFunc_Txn_g2 := by
  refine told2 G29_ok follows Try.func178 (c := Try.f178.body.getD .skip) (by kernel_rfl) slices_ContainsFunc_Txn_c ?_
  intro args s k r hk
  unfold slices_ContainsFunc_Txn_g2 at hk
  rcases onPats_inv hk with ⟨p, q, rfl, rfl⟩ | hk
  · exact .inl ⟨slices_ContainsFunc_Txn_OutOf_1_loops, slices_ContainsFunc_Txn_OutOf_1_q p.1 q.1.1 q.1.2.1 q.1.2.2.1 q.1.2.2.2.1 q.1.2.2.2.2.1 q.1.2.2.2.2.2.1 q.1.2.2.2.2.2.2.1 q.1.2.2.2.2.2.2.2.1, slices_ContainsFunc_Txn_OutOf_1_y p.1 q.1.1 q.1.2.1 q.1.2.2.1 q.1.2.2.2.1 q.1.2.2.2.2.1 q.1.2.2.2.2.2.1 q.1.2.2.2.2.2.2.1 q.1.2.2.2.2.2.2.2.1, slices_ContainsFunc_Txn_OutOf_1_l⟩
  exact .inr hk

def G30 : Glob := G29.add 178 slices_ContainsFunc_Txn_g2

theorem G30_ok : GlobOk Try.prog G30 := G29_ok.add ⟨Try.f178, Try.func178, by kernel_rfl, by kernel_rfl⟩ slices_ContainsFunc_Txn_c2



def impl_some_OutOf_1_loops : Nat → Option LoopSpec
  | _ => none

theorem impl_some_OutOf_1_y (a0 : (List dTxn)) (a1 : Int) (a2 : Int) (a3 : Int) (a4 : Int) (a5 : (List dRange)) (a6 : (List dWrite)) (a7 : Bool) (a8 : ByteArray) : execFn G30 impl_some_OutOf_1_loops Try.f100 [.lst tTxn a0, .fn 105 [.bp 0 0]] [.box [.int .i64 a1, .int .i64 a2, .int .i64 a3, .int .i64 a4, .lst tRange a5, .lst tWrite a6, .bool a7, .str a8]] = impl_some_OutOf_1_k a0 a1 a2 a3 a4 a5 a6 a7 a8 (fun (y : q29T) => some ⟨.ret, [.bool y.1], [.box [.int .i64 y.2.1, .int .i64 y.2.2.1, .int .i64 y.2.2.2.1, .int .i64 y.2.2.2.2.1, .lst tRange y.2.2.2.2.2.1, .lst tWrite y.2.2.2.2.2.2.1, .bool y.2.2.2.2.2.2.2.1, .str y.2.2.2.2.2.2.2.2]]⟩) := by rw [impl_some_OutOf_1_e]; kernel_rfl

theorem impl_some_OutOf_1_l : LoopsOk G30 ⟨1, 8, impl_some_OutOf_1_loops⟩ (Try.f100.body.getD .skip) :=
  loopsOk_of (ids := []) (by kernel_rfl) (by kernel_rfl) trivial

theorem impl_some_c2 : Contract Try.prog 100 impl_some_g2 := by
  refine told2 G30_ok follows Try.func100 (c := Try.f100.body.getD .skip) (by kernel_rfl) impl_some_c ?_
  intro args s k r hk
  unfold impl_some_g2 at hk
  rcases onPats_inv hk with ⟨p, q, rfl, rfl⟩ | hk
  · exact .inl ⟨impl_some_OutOf_1_loops, impl_some_OutOf_1_q p.1 q.1.1 q.1.2.1 q.1.2.2.1 q.1.2.2.2.1 q.1.2.2.2.2.1 q.1.2.2.2.2.2.1 q.1.2.2.2.2.2.2.1 q.1.2.2.2.2.2.2.2.1, impl_some_OutOf_1_y p.1 q.1.1 q.1.2.1 q.1.2.2.1 q.1.2.2.2.1 q.1.2.2.2.2.1 q.1.2.2.2.2.2.1 q.1.2.2.2.2.2.2.1 q.1.2.2.2.2.2.2.2.1, impl_some_OutOf_1_l⟩
  exact .inr hk

def G31 : Glob := G30.add 100 impl_some_g2

theorem G31_ok : GlobOk Try.prog G31 := G30_ok.add ⟨Try.f100, Try.func100, by kernel_rfl, by kernel_rfl⟩ impl_some_c2



def impl_OutOf_loops : Nat → Option LoopSpec
  | _ => none

theorem impl_OutOf_y (a0 : Int) (a1 : Int) (a2 : Int) (a3 : Int) (a4 : (List dRange)) (a5 : (List dWrite)) (a6 : Bool) (a7 : ByteArray) (a8 : (List dTxn)) : execFn G31 impl_OutOf_loops Try.f28 [.agg [.int .i64 a0, .int .i64 a1, .int .i64 a2, .int .i64 a3, .lst tRange a4, .lst tWrite a5, .bool a6, .str a7], .lst tTxn a8] [] = impl_OutOf_k (a0, (a1, (a2, (a3, (a4, (a5, (a6, a7))))))) a8 (fun (y : Bool) => some ⟨.ret, [.bool y], []⟩) := by rw [impl_OutOf_e]; kernel_rfl

theorem impl_OutOf_l : LoopsOk G31 ⟨0, 8, impl_OutOf_loops⟩ (Try.f28.body.getD .skip) :=
  loopsOk_of (ids := []) (by kernel_rfl) (by kernel_rfl) trivial

theorem impl_OutOf_c : Contract Try.prog 28 impl_OutOf_g := by
  refine told G31_ok follows Try.func28 (c := Try.f28.body.getD .skip) (by kernel_rfl) ?_
  intro args s k r hk
  unfold impl_OutOf_g at hk
  rcases onPats_inv hk with ⟨p, q, rfl, rfl⟩ | hk
  · exact ⟨impl_OutOf_loops, impl_OutOf_q p.1.1 p.1.2.1 p.1.2.2.1 p.1.2.2.2.1 p.1.2.2.2.2.1 p.1.2.2.2.2.2.1 p.1.2.2.2.2.2.2.1 p.1.2.2.2.2.2.2.2.1 p.2.1, impl_OutOf_y p.1.1 p.1.2.1 p.1.2.2.1 p.1.2.2.2.1 p.1.2.2.2.2.1 p.1.2.2.2.2.2.1 p.1.2.2.2.2.2.2.1 p.1.2.2.2.2.2.2.2.1 p.2.1, impl_OutOf_l⟩
  cases hk

def G32 : Glob := G31.add 28 impl_OutOf_g

theorem G32_ok : GlobOk Try.prog G32 := G31_ok.add ⟨Try.f28, Try.func28, by kernel_rfl, by kernel_rfl⟩ impl_OutOf_c



def spec_l07Copy_loops : Nat → Option LoopSpec
  | _ => none

theorem spec_l07Copy_y (a0 : Int) (a1 : Int) (a2 : Int) (a3 : Int) (a4 : (List dRange)) (a5 : (List dWrite)) (a6 : Bool) (a7 : ByteArray) : execFn G32 spec_l07Copy_loops Try.f127 [.agg [.int .i64 a0, .int .i64 a1, .int .i64 a2, .int .i64 a3, .lst tRange a4, .lst tWrite a5, .bool a6, .str a7]] [] = spec_l07Copy_k (a0, (a1, (a2, (a3, (a4, (a5, (a6, a7))))))) (fun (y : q39T) => some ⟨.ret, [.agg [.int .i64 y.1, .int .i64 y.2.1, .int .i64 y.2.2.1, .int .i64 y.2.2.2.1, .own 0, .own 1, .bool y.2.2.2.2.1, .str y.2.2.2.2.2.1]], [.arr tRange y.2.2.2.2.2.2.1, .arr tWrite y.2.2.2.2.2.2.2]⟩) := by rw [spec_l07Copy_e]; kernel_rfl

theorem spec_l07Copy_l : LoopsOk G32 ⟨0, 16, spec_l07Copy_loops⟩ (Try.f127.body.getD .skip) :=
  loopsOk_of (ids := []) (by kernel_rfl) (by kernel_rfl) trivial

theorem spec_l07Copy_c : Contract Try.prog 127 spec_l07Copy_g := by
  refine told G32_ok follows Try.func127 (c := Try.f127.body.getD .skip) (by kernel_rfl) ?_
  intro args s k r hk
  unfold spec_l07Copy_g at hk
  rcases onPats_inv hk with ⟨p, q, rfl, rfl⟩ | hk
  · exact ⟨spec_l07Copy_loops, spec_l07Copy_q p.1.1 p.1.2.1 p.1.2.2.1 p.1.2.2.2.1 p.1.2.2.2.2.1 p.1.2.2.2.2.2.1 p.1.2.2.2.2.2.2.1 p.1.2.2.2.2.2.2.2.1, spec_l07Copy_y p.1.1 p.1.2.1 p.1.2.2.1 p.1.2.2.2.1 p.1.2.2.2.2.1 p.1.2.2.2.2.2.1 p.1.2.2.2.2.2.2.1 p.1.2.2.2.2.2.2.2.1, spec_l07Copy_l⟩
  cases hk

def G33 : Glob := G32.add 127 spec_l07Copy_g

theorem G33_ok : GlobOk Try.prog G33 := G32_ok.add ⟨Try.f127, Try.func127, by kernel_rfl, by kernel_rfl⟩ spec_l07Copy_c



def spec_l01Long_loops : Nat → Option LoopSpec
  | 0 => some ⟨[0, 1, 5, 6], [], fun vals st k => onPats [.int .i64, .int .u8, .own 0, .int .i64] [.arr (.int .u8)] vals st (fun p q => loopK spec_l01Long_b0 Fuel (p.1, p.2.1, p.2.2.2.1, q.1) (fun z => k (.exit 0) [.int .i64 z.1, .int .u8 z.2.1, .own 0, .int .i64 z.2.2.1] [.arr (.int .u8) z.2.2.2]))
      (none)⟩
  | _ => none

def spec_l01Long_v0 : (Int × Int × Int × (List Int)) → List AV := (fun x => [.int .i64 x.1, .int .u8 x.2.1, .own 0, .int .i64 x.2.2.1])
def spec_l01Long_s0 : (Int × Int × Int × (List Int)) → St := (fun x => [.arr (.int .u8) x.2.2.2])
def spec_l01Long_e0 : (Int × Int × Int × (List Int)) → Out × List AV × St := (fun z => ((.exit 0), [.int .i64 z.1, .int .u8 z.2.1, .own 0, .int .i64 z.2.2.1], [.arr (.int .u8) z.2.2.2]))

theorem spec_l01Long_bx0 (x : (Int × Int × Int × (List Int))) : exec G33 ⟨0, 20, spec_l01Long_loops⟩ (loopBody Try.f222 0) (bodyK ⟨0, 20, spec_l01Long_loops⟩ [0, 1, 5, 6] []) (setEs (deads 20) [0, 1, 5, 6] (spec_l01Long_v0 x)) (spec_l01Long_s0 x) = spec_l01Long_b0 x (Sum.elim (fun y => some ⟨.norm, spec_l01Long_v0 y, spec_l01Long_s0 y⟩) fun z => some ⟨(spec_l01Long_e0 z).1, (spec_l01Long_e0 z).2.1, (spec_l01Long_e0 z).2.2⟩) := by
  kernel_rfl

theorem spec_l01Long_lo0 : ∀ sp, (spec_l01Long_loops 0) = some sp → LoopOk G33 ⟨0, 20, spec_l01Long_loops⟩ sp (loopBody Try.f222 0) := by
  intro sp hsp vals st k r h
  cases hsp
  dsimp only at h
  rcases onPats_inv2 h with ⟨p, q, rfl, rfl, h⟩ | h
  · exact loop_runs2 spec_l01Long_bp0 spec_l01Long_v0 spec_l01Long_s0 spec_l01Long_e0 (fun z => by (intro h; cases h)) spec_l01Long_bx0 Fuel (p.1, p.2.1, p.2.2.2.1, q.1) _ k r (fun z => rfl) h
  cases h

theorem spec_l01Long_y (a0 : Int) (a1 : Int) : execFn G33 spec_l01Long_loops Try.f222 [.int .i64 a0, .int .u8 a1] [] = spec_l01Long_k a0 a1 (fun (y : ByteArray) => some ⟨.ret, [.str y], []⟩) := by rw [spec_l01Long_e]; kernel_rfl

theorem spec_l01Long_l : LoopsOk G33 ⟨0, 20, spec_l01Long_loops⟩ (Try.f222.body.getD .skip) :=
  loopsOk_of (ids := [0]) (by kernel_rfl) (by kernel_rfl) ⟨spec_l01Long_lo0, trivial⟩

theorem spec_l01Long_c : Contract Try.prog 222 spec_l01Long_g := by
  refine told G33_ok follows Try.func222 (c := Try.f222.body.getD .skip) (by kernel_rfl) ?_
  intro args s k r hk
  unfold spec_l01Long_g at hk
  rcases onPats_inv hk with ⟨p, q, rfl, rfl⟩ | hk
  · exact ⟨spec_l01Long_loops, spec_l01Long_q p.1 p.2.1, spec_l01Long_y p.1 p.2.1, spec_l01Long_l⟩
  cases hk

def G34 : Glob := G33.add 222 spec_l01Long_g

theorem G34_ok : GlobOk Try.prog G34 := G33_ok.add ⟨Try.f222, Try.func222, by kernel_rfl, by kernel_rfl⟩ spec_l01Long_c



def spec_l05Any_loops : Nat → Option LoopSpec
  | _ => none

theorem spec_l05Any_y (a0 : (List Int)) (a1 : Int) (a2 : Int) : execFn G34 spec_l05Any_loops Try.f212 [.bp 0 0] [.box [.lst (.int .u8) a0, .int .i64 a1, .int .i64 a2]] = spec_l05Any_k a0 a1 a2 (fun (y : q32T) => some ⟨.ret, [.agg [.str y.1, .str y.2.1, .bool y.2.2.1]], [.box [.lst (.int .u8) y.2.2.2.1, .int .i64 y.2.2.2.2.1, .int .i64 y.2.2.2.2.2]]⟩) := by rw [spec_l05Any_e]; kernel_rfl

theorem spec_l05Any_l : LoopsOk G34 ⟨1, 25, spec_l05Any_loops⟩ (Try.f212.body.getD .skip) :=
  loopsOk_of (ids := []) (by kernel_rfl) (by kernel_rfl) trivial

theorem spec_l05Any_c : Contract Try.prog 212 spec_l05Any_g := by
  refine told G34_ok follows Try.func212 (c := Try.f212.body.getD .skip) (by kernel_rfl) ?_
  intro args s k r hk
  unfold spec_l05Any_g at hk
  rcases onPats_inv hk with ⟨p, q, rfl, rfl⟩ | hk
  · exact ⟨spec_l05Any_loops, spec_l05Any_q q.1.1 q.1.2.1 q.1.2.2.1, spec_l05Any_y q.1.1 q.1.2.1 q.1.2.2.1, spec_l05Any_l⟩
  cases hk

def G35 : Glob := G34.add 212 spec_l05Any_g

theorem G35_ok : GlobOk Try.prog G35 := G34_ok.add ⟨Try.f212, Try.func212, by kernel_rfl, by kernel_rfl⟩ spec_l05Any_c



def spec_l07Any_loops : Nat → Option LoopSpec
  | 1000016 => some ⟨[0], [], fun _ _ _ => none⟩
  | _ => none

theorem spec_l07Any_y (a0 : (List Int)) (a1 : Int) (a2 : Int) : execFn G35 spec_l07Any_loops Try.f181 [.bp 0 0] [.box [.lst (.int .u8) a0, .int .i64 a1, .int .i64 a2]] = spec_l07Any_k a0 a1 a2 (fun (y : q37T) => some ⟨.ret, [.agg [.int .i64 y.1, .int .i64 y.2.1, .int .i64 y.2.2.1, .int .i64 y.2.2.2.1, .own 1, .own 2, .bool y.2.2.2.2.1, .str y.2.2.2.2.2.1]], [.box [.lst (.int .u8) y.2.2.2.2.2.2.1, .int .i64 y.2.2.2.2.2.2.2.1, .int .i64 y.2.2.2.2.2.2.2.2.1], .arr tRange y.2.2.2.2.2.2.2.2.2.1, .arr tWrite y.2.2.2.2.2.2.2.2.2.2]⟩) := by rw [spec_l07Any_e]; kernel_rfl

theorem spec_l07Any_l : LoopsOk G35 ⟨1, 61, spec_l07Any_loops⟩ (Try.f181.body.getD .skip) :=
  loopsOk_of (ids := []) (by kernel_rfl) (by kernel_rfl) trivial

theorem spec_l07Any_c : Contract Try.prog 181 spec_l07Any_g := by
  refine told G35_ok follows Try.func181 (c := Try.f181.body.getD .skip) (by kernel_rfl) ?_
  intro args s k r hk
  unfold spec_l07Any_g at hk
  rcases onPats_inv hk with ⟨p, q, rfl, rfl⟩ | hk
  · exact ⟨spec_l07Any_loops, spec_l07Any_q q.1.1 q.1.2.1 q.1.2.2.1, spec_l07Any_y q.1.1 q.1.2.1 q.1.2.2.1, spec_l07Any_l⟩
  cases hk

def G36 : Glob := G35.add 181 spec_l07Any_g

theorem G36_ok : GlobOk Try.prog G36 := G35_ok.add ⟨Try.f181, Try.func181, by kernel_rfl, by kernel_rfl⟩ spec_l07Any_c



def spec_l08Some_loops : Nat → Option LoopSpec
  | 1000003 => some ⟨[1], [], fun _ _ _ => none⟩
  | _ => none

theorem spec_l08Some_y (a0 : (List Int)) : execFn G36 spec_l08Some_loops Try.f106 [.lst (.int .u8) a0] [] = spec_l08Some_k a0 (fun (y : q38T) => some ⟨.ret, [.tup [.agg [.int .i64 y.1, .int .i64 y.2.1, .int .i64 y.2.2.1, .int .i64 y.2.2.2.1, .own 0, .own 1, .bool y.2.2.2.2.1, .str y.2.2.2.2.2.1], .own 2]], [.arr tRange y.2.2.2.2.2.2.1, .arr tWrite y.2.2.2.2.2.2.2.1, .arr tTxn y.2.2.2.2.2.2.2.2]⟩) := by rw [spec_l08Some_e]; kernel_rfl

theorem spec_l08Some_l : LoopsOk G36 ⟨0, 13, spec_l08Some_loops⟩ (Try.f106.body.getD .skip) :=
  loopsOk_of (ids := []) (by kernel_rfl) (by kernel_rfl) trivial

theorem spec_l08Some_c : Contract Try.prog 106 spec_l08Some_g := by
  refine told G36_ok follows Try.func106 (c := Try.f106.body.getD .skip) (by kernel_rfl) ?_
  intro args s k r hk
  unfold spec_l08Some_g at hk
  rcases onPats_inv hk with ⟨p, q, rfl, rfl⟩ | hk
  · exact ⟨spec_l08Some_loops, spec_l08Some_q p.1, spec_l08Some_y p.1, spec_l08Some_l⟩
  cases hk

def G37 : Glob := G36.add 106 spec_l08Some_g

theorem G37_ok : GlobOk Try.prog G37 := G36_ok.add ⟨Try.f106, Try.func106, by kernel_rfl, by kernel_rfl⟩ spec_l08Some_c



def spec_DrawDanger_loops : Nat → Option LoopSpec
  | _ => none

theorem spec_DrawDanger_y (a0 : (List Int)) : execFn G37 spec_DrawDanger_loops Try.f29 [.lst (.int .u8) a0] [] = spec_DrawDanger_k a0 (fun (y : q38T) => some ⟨.ret, [.tup [.agg [.int .i64 y.1, .int .i64 y.2.1, .int .i64 y.2.2.1, .int .i64 y.2.2.2.1, .own 0, .own 1, .bool y.2.2.2.2.1, .str y.2.2.2.2.2.1], .own 2]], [.arr tRange y.2.2.2.2.2.2.1, .arr tWrite y.2.2.2.2.2.2.2.1, .arr tTxn y.2.2.2.2.2.2.2.2]⟩) := by rw [spec_DrawDanger_e]; kernel_rfl

theorem spec_DrawDanger_l : LoopsOk G37 ⟨0, 8, spec_DrawDanger_loops⟩ (Try.f29.body.getD .skip) :=
  loopsOk_of (ids := []) (by kernel_rfl) (by kernel_rfl) trivial

theorem spec_DrawDanger_c : Contract Try.prog 29 spec_DrawDanger_g := by
  refine told G37_ok follows Try.func29 (c := Try.f29.body.getD .skip) (by kernel_rfl) ?_
  intro args s k r hk
  unfold spec_DrawDanger_g at hk
  rcases onPats_inv hk with ⟨p, q, rfl, rfl⟩ | hk
  · exact ⟨spec_DrawDanger_loops, spec_DrawDanger_q p.1, spec_DrawDanger_y p.1, spec_DrawDanger_l⟩
  cases hk

def G38 : Glob := G37.add 29 spec_DrawDanger_g

theorem G38_ok : GlobOk Try.prog G38 := G37_ok.add ⟨Try.f29, Try.func29, by kernel_rfl, by kernel_rfl⟩ spec_DrawDanger_c



def impl_Danger_1_loops : Nat → Option LoopSpec
  | _ => none

theorem impl_Danger_1_y (a0 : Int) (a1 : Int) (a2 : Int) (a3 : Int) (a4 : (List dRange)) (a5 : (List dWrite)) (a6 : Bool) (a7 : ByteArray) (a8 : Int) (a9 : Int) (a10 : Int) (a11 : Int) (a12 : (List dRange)) (a13 : (List dWrite)) (a14 : Bool) (a15 : ByteArray) : execFn G38 impl_Danger_1_loops Try.f107 [.agg [.int .i64 a0, .int .i64 a1, .int .i64 a2, .int .i64 a3, .lst tRange a4, .lst tWrite a5, .bool a6, .str a7], .bp 0 0] [.box [.int .i64 a8, .int .i64 a9, .int .i64 a10, .int .i64 a11, .lst tRange a12, .lst tWrite a13, .bool a14, .str a15]] = impl_Danger_1_k (a0, (a1, (a2, (a3, (a4, (a5, (a6, a7))))))) a8 a9 a10 a11 a12 a13 a14 a15 (fun (y : q29T) => some ⟨.ret, [.bool y.1], [.box [.int .i64 y.2.1, .int .i64 y.2.2.1, .int .i64 y.2.2.2.1, .int .i64 y.2.2.2.2.1, .lst tRange y.2.2.2.2.2.1, .lst tWrite y.2.2.2.2.2.2.1, .bool y.2.2.2.2.2.2.2.1, .str y.2.2.2.2.2.2.2.2]]⟩) := by rw [impl_Danger_1_e]; kernel_rfl

theorem impl_Danger_1_l : LoopsOk G38 ⟨1, 19, impl_Danger_1_loops⟩ (Try.f107.body.getD .skip) :=
  loopsOk_of (ids := []) (by kernel_rfl) (by kernel_rfl) trivial

theorem impl_Danger_1_c : Contract Try.prog 107 impl_Danger_1_g := by
  refine told G38_ok follows Try.func107 (c := Try.f107.body.getD .skip) (by kernel_rfl) ?_
  intro args s k r hk
  unfold impl_Danger_1_g at hk
  rcases onPats_inv hk with ⟨p, q, rfl, rfl⟩ | hk
  · exact ⟨impl_Danger_1_loops, impl_Danger_1_q p.1.1 p.1.2.1 p.1.2.2.1 p.1.2.2.2.1 p.1.2.2.2.2.1 p.1.2.2.2.2.2.1 p.1.2.2.2.2.2.2.1 p.1.2.2.2.2.2.2.2.1 q.1.1 q.1.2.1 q.1.2.2.1 q.1.2.2.2.1 q.1.2.2.2.2.1 q.1.2.2.2.2.2.1 q.1.2.2.2.2.2.2.1 q.1.2.2.2.2.2.2.2.1, impl_Danger_1_y p.1.1 p.1.2.1 p.1.2.2.1 p.1.2.2.2.1 p.1.2.2.2.2.1 p.1.2.2.2.2.2.1 p.1.2.2.2.2.2.2.1 p.1.2.2.2.2.2.2.2.1 q.1.1 q.1.2.1 q.1.2.2.1 q.1.2.2.2.1 q.1.2.2.2.2.1 q.1.2.2.2.2.2.1 q.1.2.2.2.2.2.2.1 q.1.2.2.2.2.2.2.2.1, impl_Danger_1_l⟩
  cases hk

def G39 : Glob := G38.add 107 impl_Danger_1_g

theorem G39_ok : GlobOk Try.prog G39 := G38_ok.add ⟨Try.f107, Try.func107, by kernel_rfl, by kernel_rfl⟩ impl_Danger_1_c



def slices_IndexFunc_Txn_Danger_1_loops : Nat → Option LoopSpec
  | 0 => some ⟨[0, 1, 4, 7, 8], [], fun vals st k => onPats [.lst tTxn, .fn 107 [.bp 0 0], .int .i64, .int .i64, .int .i64] [.box [.int .i64, .int .i64, .int .i64, .int .i64, .lst tRange, .lst tWrite, .bool, .str]] vals st (fun p q => loopK slices_IndexFunc_Txn_Danger_1_b0 Fuel (p.1, p.2.2.1, p.2.2.2.1, p.2.2.2.2.1, q.1.1, q.1.2.1, q.1.2.2.1, q.1.2.2.2.1, q.1.2.2.2.2.1, q.1.2.2.2.2.2.1, q.1.2.2.2.2.2.2.1, q.1.2.2.2.2.2.2.2.1) (Sum.elim (fun z => k .ret [.lst tTxn z.1, .fn 107 [.bp 0 0], .int .i64 z.2.1, .int .i64 z.2.2.1, .int .i64 z.2.2.2.1] [.box [.int .i64 z.2.2.2.2.1, .int .i64 z.2.2.2.2.2.1, .int .i64 z.2.2.2.2.2.2.1, .int .i64 z.2.2.2.2.2.2.2.1, .lst tRange z.2.2.2.2.2.2.2.2.1, .lst tWrite z.2.2.2.2.2.2.2.2.2.1, .bool z.2.2.2.2.2.2.2.2.2.2.1, .str z.2.2.2.2.2.2.2.2.2.2.2]]) (fun z => k (.exit 0) [.lst tTxn z.1, .fn 107 [.bp 0 0], .int .i64 z.2.1, .int .i64 z.2.2.1, .int .i64 z.2.2.2.1] [.box [.int .i64 z.2.2.2.2.1, .int .i64 z.2.2.2.2.2.1, .int .i64 z.2.2.2.2.2.2.1, .int .i64 z.2.2.2.2.2.2.2.1, .lst tRange z.2.2.2.2.2.2.2.2.1, .lst tWrite z.2.2.2.2.2.2.2.2.2.1, .bool z.2.2.2.2.2.2.2.2.2.2.1, .str z.2.2.2.2.2.2.2.2.2.2.2]])))
      (none)⟩
  | _ => none

def slices_IndexFunc_Txn_Danger_1_v0 : q15T → List AV := (fun x => [.lst tTxn x.1, .fn 107 [.bp 0 0], .int .i64 x.2.1, .int .i64 x.2.2.1, .int .i64 x.2.2.2.1])
def slices_IndexFunc_Txn_Danger_1_s0 : q15T → St := (fun x => [.box [.int .i64 x.2.2.2.2.1, .int .i64 x.2.2.2.2.2.1, .int .i64 x.2.2.2.2.2.2.1, .int .i64 x.2.2.2.2.2.2.2.1, .lst tRange x.2.2.2.2.2.2.2.2.1, .lst tWrite x.2.2.2.2.2.2.2.2.2.1, .bool x.2.2.2.2.2.2.2.2.2.2.1, .str x.2.2.2.2.2.2.2.2.2.2.2]])
def slices_IndexFunc_Txn_Danger_1_e0 : (q15T ⊕ q15T) → Out × List AV × St := (Sum.elim (fun z => (.ret, [.lst tTxn z.1, .fn 107 [.bp 0 0], .int .i64 z.2.1, .int .i64 z.2.2.1, .int .i64 z.2.2.2.1], [.box [.int .i64 z.2.2.2.2.1, .int .i64 z.2.2.2.2.2.1, .int .i64 z.2.2.2.2.2.2.1, .int .i64 z.2.2.2.2.2.2.2.1, .lst tRange z.2.2.2.2.2.2.2.2.1, .lst tWrite z.2.2.2.2.2.2.2.2.2.1, .bool z.2.2.2.2.2.2.2.2.2.2.1, .str z.2.2.2.2.2.2.2.2.2.2.2]])) (fun z => ((.exit 0), [.lst tTxn z.1, .fn 107 [.bp 0 0], .int .i64 z.2.1, .int .i64 z.2.2.1, .int .i64 z.2.2.2.1], [.box [.int .i64 z.2.2.2.2.1, .int .i64 z.2.2.2.2.2.1, .int .i64 z.2.2.2.2.2.2.1, .int .i64 z.2.2.2.2.2.2.2.1, .lst tRange z.2.2.2.2.2.2.2.2.1, .lst tWrite z.2.2.2.2.2.2.2.2.2.1, .bool z.2.2.2.2.2.2.2.2.2.2.1, .str z.2.2.2.2.2.2.2.2.2.2.2]])))

theorem slices_IndexFunc_Txn_Danger_1_bx0 (x : q15T) : exec G39 ⟨1, 19, slices_IndexFunc_Txn_Danger_1_loops⟩ (loopBody Try.f81 0) (bodyK ⟨1, 19, slices_IndexFunc_Txn_Danger_1_loops⟩ [0, 1, 4, 7, 8] []) (setEs (deads 19) [0, 1, 4, 7, 8] (slices_IndexFunc_Txn_Danger_1_v0 x)) (slices_IndexFunc_Txn_Danger_1_s0 x) = slices_IndexFunc_Txn_Danger_1_b0 x (Sum.elim (fun y => some ⟨.norm, slices_IndexFunc_Txn_Danger_1_v0 y, slices_IndexFunc_Txn_Danger_1_s0 y⟩) fun z => some ⟨(slices_IndexFunc_Txn_Danger_1_e0 z).1, (slices_IndexFunc_Txn_Danger_1_e0 z).2.1, (slices_IndexFunc_Txn_Danger_1_e0 z).2.2⟩) := by
  kernel_rfl

theorem slices_IndexFunc_Txn_Danger_1_lo0 : ∀ sp, (slices_IndexFunc_Txn_Danger_1_loops 0) = some sp → LoopOk G39 ⟨1, 19, slices_IndexFunc_Txn_Danger_1_loops⟩ sp (loopBody Try.f81 0) := by
  intro sp hsp vals st k r h
  cases hsp
  dsimp only at h
  rcases onPats_inv2 h with ⟨p, q, rfl, rfl, h⟩ | h
  · exact loop_runs2 slices_IndexFunc_Txn_Danger_1_bp0 slices_IndexFunc_Txn_Danger_1_v0 slices_IndexFunc_Txn_Danger_1_s0 slices_IndexFunc_Txn_Danger_1_e0 (fun z => by rcases z with z | z <;> (intro h; cases h)) slices_IndexFunc_Txn_Danger_1_bx0 Fuel (p.1, p.2.2.1, p.2.2.2.1, p.2.2.2.2.1, q.1.1, q.1.2.1, q.1.2.2.1, q.1.2.2.2.1, q.1.2.2.2.2.1, q.1.2.2.2.2.2.1, q.1.2.2.2.2.2.2.1, q.1.2.2.2.2.2.2.2.1) _ k r (fun z => by rcases z with z | z <;> rfl) h
  cases h

theorem slices_IndexFunc_Txn_Danger_1_y (a0 : (List dTxn)) (a1 : Int) (a2 : Int) (a3 : Int) (a4 : Int) (a5 : (List dRange)) (a6 : (List dWrite)) (a7 : Bool) (a8 : ByteArray) : execFn G39 slices_IndexFunc_Txn_Danger_1_loops Try.f81 [.lst tTxn a0, .fn 107 [.bp 0 0]] [.box [.int .i64 a1, .int .i64 a2, .int .i64 a3, .int .i64 a4, .lst tRange a5, .lst tWrite a6, .bool a7, .str a8]] = slices_IndexFunc_Txn_Danger_1_k a0 a1 a2 a3 a4 a5 a6 a7 a8 (fun (y : q42T) => some ⟨.ret, [.int .i64 y.1], [.box [.int .i64 y.2.1, .int .i64 y.2.2.1, .int .i64 y.2.2.2.1, .int .i64 y.2.2.2.2.1, .lst tRange y.2.2.2.2.2.1, .lst tWrite y.2.2.2.2.2.2.1, .bool y.2.2.2.2.2.2.2.1, .str y.2.2.2.2.2.2.2.2]]⟩) := by rw [slices_IndexFunc_Txn_Danger_1_e]; kernel_rfl

theorem slices_IndexFunc_Txn_Danger_1_l : LoopsOk G39 ⟨1, 19, slices_IndexFunc_Txn_Danger_1_loops⟩ (Try.f81.body.getD .skip) :=
  loopsOk_of (ids := [0]) (by kernel_rfl) (by kernel_rfl) ⟨slices_IndexFunc_Txn_Danger_1_lo0, trivial⟩

theorem slices_IndexFunc_Txn_c3 : Contract Try.prog 81 slices_IndexFunc_Txn_g3 := by
  refine told2 G39_ok follows Try.func81 (c := Try.f81.body.getD .skip) (by kernel_rfl) slices_IndexFunc_Txn_c2 ?_
  intro args s k r hk
  unfold slices_IndexFunc_Txn_g3 at hk
  rcases onPats_inv hk with ⟨p, q, rfl, rfl⟩ | hk
  · exact .inl ⟨slices_IndexFunc_Txn_Danger_1_loops, slices_IndexFunc_Txn_Danger_1_q p.1 q.1.1 q.1.2.1 q.1.2.2.1 q.1.2.2.2.1 q.1.2.2.2.2.1 q.1.2.2.2.2.2.1 q.1.2.2.2.2.2.2.1 q.1.2.2.2.2.2.2.2.1, slices_IndexFunc_Txn_Danger_1_y p.1 q.1.1 q.1.2.1 q.1.2.2.1 q.1.2.2.2.1 q.1.2.2.2.2.1 q.1.2.2.2.2.2.1 q.1.2.2.2.2.2.2.1 q.1.2.2.2.2.2.2.2.1, slices_IndexFunc_Txn_Danger_1_l⟩
  exact .inr hk

def G40 : Glob := G39.add 81 slices_IndexFunc_Txn_g3

theorem G40_ok : GlobOk Try.prog G40 := G39_ok.add ⟨Try.f81, Try.func81, by kernel_rfl, by kernel_rfl⟩ slices_IndexFunc_Txn_c3



def slices_ContainsFunc_Txn_Danger_1_loops : Nat → Option LoopSpec
  | _ => none

theorem slices_ContainsFunc_Txn_Danger_1_y (a0 : (List dTxn)) (a1 : Int) (a2 : Int) (a3 : Int) (a4 : Int) (a5 : (List dRange)) (a6 : (List dWrite)) (a7 : Bool) (a8 : ByteArray) : execFn G40 slices_ContainsFunc_Txn_Danger_1_loops Try.f178 [.lst tTxn a0, .fn 107 [.bp 0 0]] [.box [.int .i64 a1, .int .i64 a2, .int .i64 a3, .int .i64 a4, .lst tRange a5, .lst tWrite a6, .bool a7, .str a8]] = slices_ContainsFunc_Txn_Danger_1_k a0 a1 a2 a3 a4 a5 a6 a7 a8 (fun (y : q29T) => some ⟨.ret, [.bool y.1], [.box [.int .i64 y.2.1, .int .i64 y.2.2.1, .int .i64 y.2.2.2.1, .int .i64 y.2.2.2.2.1, .lst tRange y.2.2.2.2.2.1, .lst tWrite y.2.2.2.2.2.2.1, .bool y.2.2.2.2.2.2.2.1, .str y.2.2.2.2.2.2.2.2]]⟩) := by rw [slices_ContainsFunc_Txn_Danger_1_e]; kernel_rfl

theorem slices_ContainsFunc_Txn_Danger_1_l : LoopsOk G40 ⟨1, 9, slices_ContainsFunc_Txn_Danger_1_loops⟩ (Try.f178.body.getD .skip) :=
  loopsOk_of (ids := []) (by kernel_rfl) (by kernel_rfl) trivial

theorem slices_ContainsFunc_Txn_c3 : Contract Try.prog 178 slices_ContainsFunc_Txn_g3 := by
  refine told2 G40_ok follows Try.func178 (c := Try.f178.body.getD .skip) (by kernel_rfl) slices_ContainsFunc_Txn_c2 ?_
  intro args s k r hk
  unfold slices_ContainsFunc_Txn_g3 at hk
  rcases onPats_inv hk with ⟨p, q, rfl, rfl⟩ | hk
  · exact .inl ⟨slices_ContainsFunc_Txn_Danger_1_loops, slices_ContainsFunc_Txn_Danger_1_q p.1 q.1.1 q.1.2.1 q.1.2.2.1 q.1.2.2.2.1 q.1.2.2.2.2.1 q.1.2.2.2.2.2.1 q.1.2.2.2.2.2.2.1 q.1.2.2.2.2.2.2.2.1, slices_ContainsFunc_Txn_Danger_1_y p.1 q.1.1 q.1.2.1 q.1.2.2.1 q.1.2.2.2.1 q.1.2.2.2.2.1 q.1.2.2.2.2.2.1 q.1.2.2.2.2.2.2.1 q.1.2.2.2.2.2.2.2.1, slices_ContainsFunc_Txn_Danger_1_l⟩
  exact .inr hk

def G41 : Glob := G40.add 178 slices_ContainsFunc_Txn_g3

theorem G41_ok : GlobOk Try.prog G41 := G40_ok.add ⟨Try.f178, Try.func178, by kernel_rfl, by kernel_rfl⟩ slices_ContainsFunc_Txn_c3



def impl_some_Danger_1_loops : Nat → Option LoopSpec
  | _ => none

theorem impl_some_Danger_1_y (a0 : (List dTxn)) (a1 : Int) (a2 : Int) (a3 : Int) (a4 : Int) (a5 : (List dRange)) (a6 : (List dWrite)) (a7 : Bool) (a8 : ByteArray) : execFn G41 impl_some_Danger_1_loops Try.f100 [.lst tTxn a0, .fn 107 [.bp 0 0]] [.box [.int .i64 a1, .int .i64 a2, .int .i64 a3, .int .i64 a4, .lst tRange a5, .lst tWrite a6, .bool a7, .str a8]] = impl_some_Danger_1_k a0 a1 a2 a3 a4 a5 a6 a7 a8 (fun (y : q29T) => some ⟨.ret, [.bool y.1], [.box [.int .i64 y.2.1, .int .i64 y.2.2.1, .int .i64 y.2.2.2.1, .int .i64 y.2.2.2.2.1, .lst tRange y.2.2.2.2.2.1, .lst tWrite y.2.2.2.2.2.2.1, .bool y.2.2.2.2.2.2.2.1, .str y.2.2.2.2.2.2.2.2]]⟩) := by rw [impl_some_Danger_1_e]; kernel_rfl

theorem impl_some_Danger_1_l : LoopsOk G41 ⟨1, 8, impl_some_Danger_1_loops⟩ (Try.f100.body.getD .skip) :=
  loopsOk_of (ids := []) (by kernel_rfl) (by kernel_rfl) trivial

theorem impl_some_c3 : Contract Try.prog 100 impl_some_g3 := by
  refine told2 G41_ok follows Try.func100 (c := Try.f100.body.getD .skip) (by kernel_rfl) impl_some_c2 ?_
  intro args s k r hk
  unfold impl_some_g3 at hk
  rcases onPats_inv hk with ⟨p, q, rfl, rfl⟩ | hk
  · exact .inl ⟨impl_some_Danger_1_loops, impl_some_Danger_1_q p.1 q.1.1 q.1.2.1 q.1.2.2.1 q.1.2.2.2.1 q.1.2.2.2.2.1 q.1.2.2.2.2.2.1 q.1.2.2.2.2.2.2.1 q.1.2.2.2.2.2.2.2.1, impl_some_Danger_1_y p.1 q.1.1 q.1.2.1 q.1.2.2.1 q.1.2.2.2.1 q.1.2.2.2.2.1 q.1.2.2.2.2.2.1 q.1.2.2.2.2.2.2.1 q.1.2.2.2.2.2.2.2.1, impl_some_Danger_1_l⟩
  exact .inr hk

def G42 : Glob := G41.add 100 impl_some_g3

theorem G42_ok : GlobOk Try.prog G42 := G41_ok.add ⟨Try.f100, Try.func100, by kernel_rfl, by kernel_rfl⟩ impl_some_c3



def impl_Danger_2_1_loops : Nat → Option LoopSpec
  | _ => none

theorem impl_Danger_2_1_y (a0 : Int) (a1 : Int) (a2 : Int) (a3 : Int) (a4 : (List dRange)) (a5 : (List dWrite)) (a6 : Bool) (a7 : ByteArray) (a8 : Int) (a9 : Int) (a10 : Int) (a11 : Int) (a12 : (List dRange)) (a13 : (List dWrite)) (a14 : Bool) (a15 : ByteArray) : execFn G42 impl_Danger_2_1_loops Try.f109 [.agg [.int .i64 a0, .int .i64 a1, .int .i64 a2, .int .i64 a3, .lst tRange a4, .lst tWrite a5, .bool a6, .str a7], .bp 0 0] [.box [.int .i64 a8, .int .i64 a9, .int .i64 a10, .int .i64 a11, .lst tRange a12, .lst tWrite a13, .bool a14, .str a15]] = impl_Danger_2_1_k (a0, (a1, (a2, (a3, (a4, (a5, (a6, a7))))))) a8 a9 a10 a11 a12 a13 a14 a15 (fun (y : q29T) => some ⟨.ret, [.bool y.1], [.box [.int .i64 y.2.1, .int .i64 y.2.2.1, .int .i64 y.2.2.2.1, .int .i64 y.2.2.2.2.1, .lst tRange y.2.2.2.2.2.1, .lst tWrite y.2.2.2.2.2.2.1, .bool y.2.2.2.2.2.2.2.1, .str y.2.2.2.2.2.2.2.2]]⟩) := by rw [impl_Danger_2_1_e]; kernel_rfl

theorem impl_Danger_2_1_l : LoopsOk G42 ⟨1, 11, impl_Danger_2_1_loops⟩ (Try.f109.body.getD .skip) :=
  loopsOk_of (ids := []) (by kernel_rfl) (by kernel_rfl) trivial

theorem impl_Danger_2_1_c : Contract Try.prog 109 impl_Danger_2_1_g := by
  refine told G42_ok follows Try.func109 (c := Try.f109.body.getD .skip) (by kernel_rfl) ?_
  intro args s k r hk
  unfold impl_Danger_2_1_g at hk
  rcases onPats_inv hk with ⟨p, q, rfl, rfl⟩ | hk
  · exact ⟨impl_Danger_2_1_loops, impl_Danger_2_1_q p.1.1 p.1.2.1 p.1.2.2.1 p.1.2.2.2.1 p.1.2.2.2.2.1 p.1.2.2.2.2.2.1 p.1.2.2.2.2.2.2.1 p.1.2.2.2.2.2.2.2.1 q.1.1 q.1.2.1 q.1.2.2.1 q.1.2.2.2.1 q.1.2.2.2.2.1 q.1.2.2.2.2.2.1 q.1.2.2.2.2.2.2.1 q.1.2.2.2.2.2.2.2.1, impl_Danger_2_1_y p.1.1 p.1.2.1 p.1.2.2.1 p.1.2.2.2.1 p.1.2.2.2.2.1 p.1.2.2.2.2.2.1 p.1.2.2.2.2.2.2.1 p.1.2.2.2.2.2.2.2.1 q.1.1 q.1.2.1 q.1.2.2.1 q.1.2.2.2.1 q.1.2.2.2.2.1 q.1.2.2.2.2.2.1 q.1.2.2.2.2.2.2.1 q.1.2.2.2.2.2.2.2.1, impl_Danger_2_1_l⟩
  cases hk

def G43 : Glob := G42.add 109 impl_Danger_2_1_g

theorem G43_ok : GlobOk Try.prog G43 := G42_ok.add ⟨Try.f109, Try.func109, by kernel_rfl, by kernel_rfl⟩ impl_Danger_2_1_c



def slices_IndexFunc_Txn_Danger_2_1_loops : Nat → Option LoopSpec
  | 0 => some ⟨[0, 1, 4, 7, 8], [], fun vals st k => onPats [.lst tTxn, .fn 109 [.bp 0 0], .int .i64, .int .i64, .int .i64] [.box [.int .i64, .int .i64, .int .i64, .int .i64, .lst tRange, .lst tWrite, .bool, .str]] vals st (fun p q => loopK slices_IndexFunc_Txn_Danger_2_1_b0 Fuel (p.1, p.2.2.1, p.2.2.2.1, p.2.2.2.2.1, q.1.1, q.1.2.1, q.1.2.2.1, q.1.2.2.2.1, q.1.2.2.2.2.1, q.1.2.2.2.2.2.1, q.1.2.2.2.2.2.2.1, q.1.2.2.2.2.2.2.2.1) (Sum.elim (fun z => k .ret [.lst tTxn z.1, .fn 109 [.bp 0 0], .int .i64 z.2.1, .int .i64 z.2.2.1, .int .i64 z.2.2.2.1] [.box [.int .i64 z.2.2.2.2.1, .int .i64 z.2.2.2.2.2.1, .int .i64 z.2.2.2.2.2.2.1, .int .i64 z.2.2.2.2.2.2.2.1, .lst tRange z.2.2.2.2.2.2.2.2.1, .lst tWrite z.2.2.2.2.2.2.2.2.2.1, .bool z.2.2.2.2.2.2.2.2.2.2.1, .str z.2.2.2.2.2.2.2.2.2.2.2]]) (fun z => k (.exit 0) [.lst tTxn z.1, .fn 109 [.bp 0 0], .int .i64 z.2.1, .int .i64 z.2.2.1, .int .i64 z.2.2.2.1] [.box [.int .i64 z.2.2.2.2.1, .int .i64 z.2.2.2.2.2.1, .int .i64 z.2.2.2.2.2.2.1, .int .i64 z.2.2.2.2.2.2.2.1, .lst tRange z.2.2.2.2.2.2.2.2.1, .lst tWrite z.2.2.2.2.2.2.2.2.2.1, .bool z.2.2.2.2.2.2.2.2.2.2.1, .str z.2.2.2.2.2.2.2.2.2.2.2]])))
      (none)⟩
  | _ => none

def slices_IndexFunc_Txn_Danger_2_1_v0 : q15T → List AV := (fun x => [.lst tTxn x.1, .fn 109 [.bp 0 0], .int .i64 x.2.1, .int .i64 x.2.2.1, .int .i64 x.2.2.2.1])
def slices_IndexFunc_Txn_Danger_2_1_s0 : q15T → St := (fun x => [.box [.int .i64 x.2.2.2.2.1, .int .i64 x.2.2.2.2.2.1, .int .i64 x.2.2.2.2.2.2.1, .int .i64 x.2.2.2.2.2.2.2.1, .lst tRange x.2.2.2.2.2.2.2.2.1, .lst tWrite x.2.2.2.2.2.2.2.2.2.1, .bool x.2.2.2.2.2.2.2.2.2.2.1, .str x.2.2.2.2.2.2.2.2.2.2.2]])
def slices_IndexFunc_Txn_Danger_2_1_e0 : (q15T ⊕ q15T) → Out × List AV × St := (Sum.elim (fun z => (.ret, [.lst tTxn z.1, .fn 109 [.bp 0 0], .int .i64 z.2.1, .int .i64 z.2.2.1, .int .i64 z.2.2.2.1], [.box [.int .i64 z.2.2.2.2.1, .int .i64 z.2.2.2.2.2.1, .int .i64 z.2.2.2.2.2.2.1, .int .i64 z.2.2.2.2.2.2.2.1, .lst tRange z.2.2.2.2.2.2.2.2.1, .lst tWrite z.2.2.2.2.2.2.2.2.2.1, .bool z.2.2.2.2.2.2.2.2.2.2.1, .str z.2.2.2.2.2.2.2.2.2.2.2]])) (fun z => ((.exit 0), [.lst tTxn z.1, .fn 109 [.bp 0 0], .int .i64 z.2.1, .int .i64 z.2.2.1, .int .i64 z.2.2.2.1], [.box [.int .i64 z.2.2.2.2.1, .int .i64 z.2.2.2.2.2.1, .int .i64 z.2.2.2.2.2.2.1, .int .i64 z.2.2.2.2.2.2.2.1, .lst tRange z.2.2.2.2.2.2.2.2.1, .lst tWrite z.2.2.2.2.2.2.2.2.2.1, .bool z.2.2.2.2.2.2.2.2.2.2.1, .str z.2.2.2.2.2.2.2.2.2.2.2]])))

theorem slices_IndexFunc_Txn_Danger_2_1_bx0 (x : q15T) : exec G43 ⟨1, 19, slices_IndexFunc_Txn_Danger_2_1_loops⟩ (loopBody Try.f81 0) (bodyK ⟨1, 19, slices_IndexFunc_Txn_Danger_2_1_loops⟩ [0, 1, 4, 7, 8] []) (setEs (deads 19) [0, 1, 4, 7, 8] (slices_IndexFunc_Txn_Danger_2_1_v0 x)) (slices_IndexFunc_Txn_Danger_2_1_s0 x) = slices_IndexFunc_Txn_Danger_2_1_b0 x (Sum.elim (fun y => some ⟨.norm, slices_IndexFunc_Txn_Danger_2_1_v0 y, slices_IndexFunc_Txn_Danger_2_1_s0 y⟩) fun z => some ⟨(slices_IndexFunc_Txn_Danger_2_1_e0 z).1, (slices_IndexFunc_Txn_Danger_2_1_e0 z).2.1, (slices_IndexFunc_Txn_Danger_2_1_e0 z).2.2⟩) := by
  kernel_rfl

theorem slices_IndexFunc_Txn_Danger_2_1_lo0 : ∀ sp, (slices_IndexFunc_Txn_Danger_2_1_loops 0) = some sp → LoopOk G43 ⟨1, 19, slices_IndexFunc_Txn_Danger_2_1_loops⟩ sp (loopBody Try.f81 0) := by
  intro sp hsp vals st k r h
  cases hsp
  dsimp only at h
  rcases onPats_inv2 h with ⟨p, q, rfl, rfl, h⟩ | h
  · exact loop_runs2 slices_IndexFunc_Txn_Danger_2_1_bp0 slices_IndexFunc_Txn_Danger_2_1_v0 slices_IndexFunc_Txn_Danger_2_1_s0 slices_IndexFunc_Txn_Danger_2_1_e0 (fun z => by rcases z with z | z <;> (intro h; cases h)) slices_IndexFunc_Txn_Danger_2_1_bx0 Fuel (p.1, p.2.2.1, p.2.2.2.1, p.2.2.2.2.1, q.1.1, q.1.2.1, q.1.2.2.1, q.1.2.2.2.1, q.1.2.2.2.2.1, q.1.2.2.2.2.2.1, q.1.2.2.2.2.2.2.1, q.1.2.2.2.2.2.2.2.1) _ k r (fun z => by rcases z with z | z <;> rfl) h
  cases h

theorem slices_IndexFunc_Txn_Danger_2_1_y (a0 : (List dTxn)) (a1 : Int) (a2 : Int) (a3 : Int) (a4 : Int) (a5 : (List dRange)) (a6 : (List dWrite)) (a7 : Bool) (a8 : ByteArray) : execFn G43 slices_IndexFunc_Txn_Danger_2_1_loops Try.f81 [.lst tTxn a0, .fn 109 [.bp 0 0]] [.box [.int .i64 a1, .int .i64 a2, .int .i64 a3, .int .i64 a4, .lst tRange a5, .lst tWrite a6, .bool a7, .str a8]] = slices_IndexFunc_Txn_Danger_2_1_k a0 a1 a2 a3 a4 a5 a6 a7 a8 (fun (y : q42T) => some ⟨.ret, [.int .i64 y.1], [.box [.int .i64 y.2.1, .int .i64 y.2.2.1, .int .i64 y.2.2.2.1, .int .i64 y.2.2.2.2.1, .lst tRange y.2.2.2.2.2.1, .lst tWrite y.2.2.2.2.2.2.1, .bool y.2.2.2.2.2.2.2.1, .str y.2.2.2.2.2.2.2.2]]⟩) := by rw [slices_IndexFunc_Txn_Danger_2_1_e]; kernel_rfl

theorem slices_IndexFunc_Txn_Danger_2_1_l : LoopsOk G43 ⟨1, 19, slices_IndexFunc_Txn_Danger_2_1_loops⟩ (Try.f81.body.getD .skip) :=
  loopsOk_of (ids := [0]) (by kernel_rfl) (by kernel_rfl) ⟨slices_IndexFunc_Txn_Danger_2_1_lo0, trivial⟩

theorem slices_IndexFunc_Txn_c4 : Contract Try.prog 81 slices_IndexFunc_Txn_g4 := by
  refine told2 G43_ok follows Try.func81 (c := Try.f81.body.getD .skip) (by kernel_rfl) slices_IndexFunc_Txn_c3 ?_
  intro args s k r hk
  unfold slices_IndexFunc_Txn_g4 at hk
  rcases onPats_inv hk with ⟨p, q, rfl, rfl⟩ | hk
  · exact .inl ⟨slices_IndexFunc_Txn_Danger_2_1_loops, slices_IndexFunc_Txn_Danger_2_1_q p.1 q.1.1 q.1.2.1 q.1.2.2.1 q.1.2.2.2.1 q.1.2.2.2.2.1 q.1.2.2.2.2.2.1 q.1.2.2.2.2.2.2.1 q.1.2.2.2.2.2.2.2.1, slices_IndexFunc_Txn_Danger_2_1_y p.1 q.1.1 q.1.2.1 q.1.2.2.1 q.1.2.2.2.1 q.1.2.2.2.2.1 q.1.2.2.2.2.2.1 q.1.2.2.2.2.2.2.1 q.1.2.2.2.2.2.2.2.1, slices_IndexFunc_Txn_Danger_2_1_l⟩
  exact .inr hk

def G44 : Glob := G43.add 81 slices_IndexFunc_Txn_g4

theorem G44_ok : GlobOk Try.prog G44 := G43_ok.add ⟨Try.f81, Try.func81, by kernel_rfl, by kernel_rfl⟩ slices_IndexFunc_Txn_c4



def slices_ContainsFunc_Txn_Danger_2_1_loops : Nat → Option LoopSpec
  | _ => none

theorem slices_ContainsFunc_Txn_Danger_2_1_y (a0 : (List dTxn)) (a1 : Int) (a2 : Int) (a3 : Int) (a4 : Int) (a5 : (List dRange)) (a6 : (List dWrite)) (a7 : Bool) (a8 : ByteArray) : execFn G44 slices_ContainsFunc_Txn_Danger_2_1_loops Try.f178 [.lst tTxn a0, .fn 109 [.bp 0 0]] [.box [.int .i64 a1, .int .i64 a2, .int .i64 a3, .int .i64 a4, .lst tRange a5, .lst tWrite a6, .bool a7, .str a8]] = slices_ContainsFunc_Txn_Danger_2_1_k a0 a1 a2 a3 a4 a5 a6 a7 a8 (fun (y : q29T) => some ⟨.ret, [.bool y.1], [.box [.int .i64 y.2.1, .int .i64 y.2.2.1, .int .i64 y.2.2.2.1, .int .i64 y.2.2.2.2.1, .lst tRange y.2.2.2.2.2.1, .lst tWrite y.2.2.2.2.2.2.1, .bool y.2.2.2.2.2.2.2.1, .str y.2.2.2.2.2.2.2.2]]⟩) := by rw [slices_ContainsFunc_Txn_Danger_2_1_e]; kernel_rfl

theorem slices_ContainsFunc_Txn_Danger_2_1_l : LoopsOk G44 ⟨1, 9, slices_ContainsFunc_Txn_Danger_2_1_loops⟩ (Try.f178.body.getD .skip) :=
  loopsOk_of (ids := []) (by kernel_rfl) (by kernel_rfl) trivial

theorem slices_ContainsFunc_Txn_c4 : Contract Try.prog 178 slices_ContainsFunc_Txn_g4 := by
  refine told2 G44_ok follows Try.func178 (c := Try.f178.body.getD .skip) (by kernel_rfl) slices_ContainsFunc_Txn_c3 ?_
  intro args s k r hk
  unfold slices_ContainsFunc_Txn_g4 at hk
  rcases onPats_inv hk with ⟨p, q, rfl, rfl⟩ | hk
  · exact .inl ⟨slices_ContainsFunc_Txn_Danger_2_1_loops, slices_ContainsFunc_Txn_Danger_2_1_q p.1 q.1.1 q.1.2.1 q.1.2.2.1 q.1.2.2.2.1 q.1.2.2.2.2.1 q.1.2.2.2.2.2.1 q.1.2.2.2.2.2.2.1 q.1.2.2.2.2.2.2.2.1, slices_ContainsFunc_Txn_Danger_2_1_y p.1 q.1.1 q.1.2.1 q.1.2.2.1 q.1.2.2.2.1 q.1.2.2.2.2.1 q.1.2.2.2.2.2.1 q.1.2.2.2.2.2.2.1 q.1.2.2.2.2.2.2.2.1, slices_ContainsFunc_Txn_Danger_2_1_l⟩
  exact .inr hk

def G45 : Glob := G44.add 178 slices_ContainsFunc_Txn_g4

theorem G45_ok : GlobOk Try.prog G45 := G44_ok.add ⟨Try.f178, Try.func178, by kernel_rfl, by kernel_rfl⟩ slices_ContainsFunc_Txn_c4



def impl_some_Danger_2_1_loops : Nat → Option LoopSpec
  | _ => none

theorem impl_some_Danger_2_1_y (a0 : (List dTxn)) (a1 : Int) (a2 : Int) (a3 : Int) (a4 : Int) (a5 : (List dRange)) (a6 : (List dWrite)) (a7 : Bool) (a8 : ByteArray) : execFn G45 impl_some_Danger_2_1_loops Try.f100 [.lst tTxn a0, .fn 109 [.bp 0 0]] [.box [.int .i64 a1, .int .i64 a2, .int .i64 a3, .int .i64 a4, .lst tRange a5, .lst tWrite a6, .bool a7, .str a8]] = impl_some_Danger_2_1_k a0 a1 a2 a3 a4 a5 a6 a7 a8 (fun (y : q29T) => some ⟨.ret, [.bool y.1], [.box [.int .i64 y.2.1, .int .i64 y.2.2.1, .int .i64 y.2.2.2.1, .int .i64 y.2.2.2.2.1, .lst tRange y.2.2.2.2.2.1, .lst tWrite y.2.2.2.2.2.2.1, .bool y.2.2.2.2.2.2.2.1, .str y.2.2.2.2.2.2.2.2]]⟩) := by rw [impl_some_Danger_2_1_e]; kernel_rfl

theorem impl_some_Danger_2_1_l : LoopsOk G45 ⟨1, 8, impl_some_Danger_2_1_loops⟩ (Try.f100.body.getD .skip) :=
  loopsOk_of (ids := []) (by kernel_rfl) (by kernel_rfl) trivial

theorem impl_some_c4 : Contract Try.prog 100 impl_some_g4 := by
  refine told2 G45_ok follows Try.func100 (c := Try.f100.body.getD .skip) (by kernel_rfl) impl_some_c3 ?_
  intro args s k r hk
  unfold impl_some_g4 at hk
  rcases onPats_inv hk with ⟨p, q, rfl, rfl⟩ | hk
  · exact .inl ⟨impl_some_Danger_2_1_loops, impl_some_Danger_2_1_q p.1 q.1.1 q.1.2.1 q.1.2.2.1 q.1.2.2.2.1 q.1.2.2.2.2.1 q.1.2.2.2.2.2.1 q.1.2.2.2.2.2.2.1 q.1.2.2.2.2.2.2.2.1, impl_some_Danger_2_1_y p.1 q.1.1 q.1.2.1 q.1.2.2.1 q.1.2.2.2.1 q.1.2.2.2.2.1 q.1.2.2.2.2.2.1 q.1.2.2.2.2.2.2.1 q.1.2.2.2.2.2.2.2.1, impl_some_Danger_2_1_l⟩
  exact .inr hk

def G46 : Glob := G45.add 100 impl_some_g4

theorem G46_ok : GlobOk Try.prog G46 := G45_ok.add ⟨Try.f100, Try.func100, by kernel_rfl, by kernel_rfl⟩ impl_some_c4



def impl_Danger_2_loops : Nat → Option LoopSpec
  | 5000003 => some ⟨[1, 2, 3, 4], [], fun vals st k => onPats [.bp 0 0, .bp 1 0, .bp 2 0, .bool] [.box [.int .i64, .int .i64, .int .i64, .int .i64, .lst tRange, .lst tWrite, .bool, .str], .box [.lst tTxn], .box [.int .i64, .int .i64, .int .i64, .int .i64, .lst tRange, .lst tWrite, .bool, .str]] vals st (fun p q => impl_Danger_2_j5000003 (p.2.2.2.1, q.1.1, q.1.2.1, q.1.2.2.1, q.1.2.2.2.1, q.1.2.2.2.2.1, q.1.2.2.2.2.2.1, q.1.2.2.2.2.2.2.1, q.1.2.2.2.2.2.2.2.1, q.2.1.1, q.2.2.1.1, q.2.2.1.2.1, q.2.2.1.2.2.1, q.2.2.1.2.2.2.1, q.2.2.1.2.2.2.2.1, q.2.2.1.2.2.2.2.2.1, q.2.2.1.2.2.2.2.2.2.1, q.2.2.1.2.2.2.2.2.2.2.1) (fun z => k .ret [.bp 0 0, .bp 1 0, .bp 2 0, .bool z.1] [.box [.int .i64 z.2.1, .int .i64 z.2.2.1, .int .i64 z.2.2.2.1, .int .i64 z.2.2.2.2.1, .lst tRange z.2.2.2.2.2.1, .lst tWrite z.2.2.2.2.2.2.1, .bool z.2.2.2.2.2.2.2.1, .str z.2.2.2.2.2.2.2.2.1], .box [.lst tTxn z.2.2.2.2.2.2.2.2.2.1], .box [.int .i64 z.2.2.2.2.2.2.2.2.2.2.1, .int .i64 z.2.2.2.2.2.2.2.2.2.2.2.1, .int .i64 z.2.2.2.2.2.2.2.2.2.2.2.2.1, .int .i64 z.2.2.2.2.2.2.2.2.2.2.2.2.2.1, .lst tRange z.2.2.2.2.2.2.2.2.2.2.2.2.2.2.1, .lst tWrite z.2.2.2.2.2.2.2.2.2.2.2.2.2.2.2.1, .bool z.2.2.2.2.2.2.2.2.2.2.2.2.2.2.2.2.1, .str z.2.2.2.2.2.2.2.2.2.2.2.2.2.2.2.2.2]]))
      (none)⟩
  | _ => none

def impl_Danger_2_jv5000003 : q26T → List AV := (fun x => [.bp 0 0, .bp 1 0, .bp 2 0, .bool x.1])
def impl_Danger_2_js5000003 : q26T → St := (fun x => [.box [.int .i64 x.2.1, .int .i64 x.2.2.1, .int .i64 x.2.2.2.1, .int .i64 x.2.2.2.2.1, .lst tRange x.2.2.2.2.2.1, .lst tWrite x.2.2.2.2.2.2.1, .bool x.2.2.2.2.2.2.2.1, .str x.2.2.2.2.2.2.2.2.1], .box [.lst tTxn x.2.2.2.2.2.2.2.2.2.1], .box [.int .i64 x.2.2.2.2.2.2.2.2.2.2.1, .int .i64 x.2.2.2.2.2.2.2.2.2.2.2.1, .int .i64 x.2.2.2.2.2.2.2.2.2.2.2.2.1, .int .i64 x.2.2.2.2.2.2.2.2.2.2.2.2.2.1, .lst tRange x.2.2.2.2.2.2.2.2.2.2.2.2.2.2.1, .lst tWrite x.2.2.2.2.2.2.2.2.2.2.2.2.2.2.2.1, .bool x.2.2.2.2.2.2.2.2.2.2.2.2.2.2.2.2.1, .str x.2.2.2.2.2.2.2.2.2.2.2.2.2.2.2.2.2]])
def impl_Danger_2_je5000003 : q26T → Out × List AV × St := (fun z => (.ret, [.bp 0 0, .bp 1 0, .bp 2 0, .bool z.1], [.box [.int .i64 z.2.1, .int .i64 z.2.2.1, .int .i64 z.2.2.2.1, .int .i64 z.2.2.2.2.1, .lst tRange z.2.2.2.2.2.1, .lst tWrite z.2.2.2.2.2.2.1, .bool z.2.2.2.2.2.2.2.1, .str z.2.2.2.2.2.2.2.2.1], .box [.lst tTxn z.2.2.2.2.2.2.2.2.2.1], .box [.int .i64 z.2.2.2.2.2.2.2.2.2.2.1, .int .i64 z.2.2.2.2.2.2.2.2.2.2.2.1, .int .i64 z.2.2.2.2.2.2.2.2.2.2.2.2.1, .int .i64 z.2.2.2.2.2.2.2.2.2.2.2.2.2.1, .lst tRange z.2.2.2.2.2.2.2.2.2.2.2.2.2.2.1, .lst tWrite z.2.2.2.2.2.2.2.2.2.2.2.2.2.2.2.1, .bool z.2.2.2.2.2.2.2.2.2.2.2.2.2.2.2.2.1, .str z.2.2.2.2.2.2.2.2.2.2.2.2.2.2.2.2.2]]))

theorem impl_Danger_2_jx5000003 (x : q26T) : exec G46 ⟨2, 22, impl_Danger_2_loops⟩ (loopBody Try.f108 5000003) (bodyK ⟨2, 22, impl_Danger_2_loops⟩ [1, 2, 3, 4] []) (setEs (deads 22) [1, 2, 3, 4] (impl_Danger_2_jv5000003 x)) (impl_Danger_2_js5000003 x) = impl_Danger_2_j5000003 x (fun z => some ⟨(impl_Danger_2_je5000003 z).1, (impl_Danger_2_je5000003 z).2.1, (impl_Danger_2_je5000003 z).2.2⟩) := by
  kernel_rfl

theorem impl_Danger_2_lo5000003 : ∀ sp, (impl_Danger_2_loops 5000003) = some sp → CutOk G46 ⟨2, 22, impl_Danger_2_loops⟩ sp (loopBody Try.f108 5000003) := by
  intro sp hsp vals st k r h
  cases hsp
  dsimp only at h
  rcases onPats_inv2 h with ⟨p, q, rfl, rfl, h⟩ | h
  · exact cut_runs impl_Danger_2_jp5000003 impl_Danger_2_jv5000003 impl_Danger_2_js5000003 impl_Danger_2_je5000003 impl_Danger_2_jx5000003 (p.2.2.2.1, q.1.1, q.1.2.1, q.1.2.2.1, q.1.2.2.2.1, q.1.2.2.2.2.1, q.1.2.2.2.2.2.1, q.1.2.2.2.2.2.2.1, q.1.2.2.2.2.2.2.2.1, q.2.1.1, q.2.2.1.1, q.2.2.1.2.1, q.2.2.1.2.2.1, q.2.2.1.2.2.2.1, q.2.2.1.2.2.2.2.1, q.2.2.1.2.2.2.2.2.1, q.2.2.1.2.2.2.2.2.2.1, q.2.2.1.2.2.2.2.2.2.2.1) _ k r (fun z => rfl) h
  cases h

theorem impl_Danger_2_y (a0 : Int) (a1 : Int) (a2 : Int) (a3 : Int) (a4 : (List dRange)) (a5 : (List dWrite)) (a6 : Bool) (a7 : ByteArray) (a8 : Int) (a9 : Int) (a10 : Int) (a11 : Int) (a12 : (List dRange)) (a13 : (List dWrite)) (a14 : Bool) (a15 : ByteArray) (a16 : (List dTxn)) : execFn G46 impl_Danger_2_loops Try.f108 [.agg [.int .i64 a0, .int .i64 a1, .int .i64 a2, .int .i64 a3, .lst tRange a4, .lst tWrite a5, .bool a6, .str a7], .bp 0 0, .bp 1 0] [.box [.int .i64 a8, .int .i64 a9, .int .i64 a10, .int .i64 a11, .lst tRange a12, .lst tWrite a13, .bool a14, .str a15], .box [.lst tTxn a16]] = impl_Danger_2_k (a0, (a1, (a2, (a3, (a4, (a5, (a6, a7))))))) a8 a9 a10 a11 a12 a13 a14 a15 a16 (fun (y : q27T) => some ⟨.ret, [.bool y.1], [.box [.int .i64 y.2.1, .int .i64 y.2.2.1, .int .i64 y.2.2.2.1, .int .i64 y.2.2.2.2.1, .lst tRange y.2.2.2.2.2.1, .lst tWrite y.2.2.2.2.2.2.1, .bool y.2.2.2.2.2.2.2.1, .str y.2.2.2.2.2.2.2.2.1], .box [.lst tTxn y.2.2.2.2.2.2.2.2.2]]⟩) := by rw [impl_Danger_2_e]; kernel_rfl

theorem impl_Danger_2_l : LoopsOk G46 ⟨2, 22, impl_Danger_2_loops⟩ (Try.f108.body.getD .skip) :=
  loopsOk_of (ids := [5000003]) (by kernel_rfl) (by kernel_rfl) ⟨impl_Danger_2_lo5000003, trivial⟩

theorem impl_Danger_2_c : Contract Try.prog 108 impl_Danger_2_g := by
  refine told G46_ok follows Try.func108 (c := Try.f108.body.getD .skip) (by kernel_rfl) ?_
  intro args s k r hk
  unfold impl_Danger_2_g at hk
  rcases onPats_inv hk with ⟨p, q, rfl, rfl⟩ | hk
  · exact ⟨impl_Danger_2_loops, impl_Danger_2_q p.1.1 p.1.2.1 p.1.2.2.1 p.1.2.2.2.1 p.1.2.2.2.2.1 p.1.2.2.2.2.2.1 p.1.2.2.2.2.2.2.1 p.1.2.2.2.2.2.2.2.1 q.1.1 q.1.2.1 q.1.2.2.1 q.1.2.2.2.1 q.1.2.2.2.2.1 q.1.2.2.2.2.2.1 q.1.2.2.2.2.2.2.1 q.1.2.2.2.2.2.2.2.1 q.2.1.1, impl_Danger_2_y p.1.1 p.1.2.1 p.1.2.2.1 p.1.2.2.2.1 p.1.2.2.2.2.1 p.1.2.2.2.2.2.1 p.1.2.2.2.2.2.2.1 p.1.2.2.2.2.2.2.2.1 q.1.1 q.1.2.1 q.1.2.2.1 q.1.2.2.2.1 q.1.2.2.2.2.1 q.1.2.2.2.2.2.1 q.1.2.2.2.2.2.2.1 q.1.2.2.2.2.2.2.2.1 q.2.1.1, impl_Danger_2_l⟩
  cases hk

def G47 : Glob := G46.add 108 impl_Danger_2_g

theorem G47_ok : GlobOk Try.prog G47 := G46_ok.add ⟨Try.f108, Try.func108, by kernel_rfl, by kernel_rfl⟩ impl_Danger_2_c



def slices_IndexFunc_Txn_Danger_2_loops : Nat → Option LoopSpec
  | 0 => some ⟨[0, 1, 4, 7, 8], [], fun vals st k => onPats [.lst tTxn, .fn 108 [.bp 0 0, .bp 1 0], .int .i64, .int .i64, .int .i64] [.box [.int .i64, .int .i64, .int .i64, .int .i64, .lst tRange, .lst tWrite, .bool, .str], .box [.lst tTxn]] vals st (fun p q => loopK slices_IndexFunc_Txn_Danger_2_b0 Fuel (p.1, p.2.2.1, p.2.2.2.1, p.2.2.2.2.1, q.1.1, q.1.2.1, q.1.2.2.1, q.1.2.2.2.1, q.1.2.2.2.2.1, q.1.2.2.2.2.2.1, q.1.2.2.2.2.2.2.1, q.1.2.2.2.2.2.2.2.1, q.2.1.1) (Sum.elim (fun z => k .ret [.lst tTxn z.1, .fn 108 [.bp 0 0, .bp 1 0], .int .i64 z.2.1, .int .i64 z.2.2.1, .int .i64 z.2.2.2.1] [.box [.int .i64 z.2.2.2.2.1, .int .i64 z.2.2.2.2.2.1, .int .i64 z.2.2.2.2.2.2.1, .int .i64 z.2.2.2.2.2.2.2.1, .lst tRange z.2.2.2.2.2.2.2.2.1, .lst tWrite z.2.2.2.2.2.2.2.2.2.1, .bool z.2.2.2.2.2.2.2.2.2.2.1, .str z.2.2.2.2.2.2.2.2.2.2.2.1], .box [.lst tTxn z.2.2.2.2.2.2.2.2.2.2.2.2]]) (fun z => k (.exit 0) [.lst tTxn z.1, .fn 108 [.bp 0 0, .bp 1 0], .int .i64 z.2.1, .int .i64 z.2.2.1, .int .i64 z.2.2.2.1] [.box [.int .i64 z.2.2.2.2.1, .int .i64 z.2.2.2.2.2.1, .int .i64 z.2.2.2.2.2.2.1, .int .i64 z.2.2.2.2.2.2.2.1, .lst tRange z.2.2.2.2.2.2.2.2.1, .lst tWrite z.2.2.2.2.2.2.2.2.2.1, .bool z.2.2.2.2.2.2.2.2.2.2.1, .str z.2.2.2.2.2.2.2.2.2.2.2.1], .box [.lst tTxn z.2.2.2.2.2.2.2.2.2.2.2.2]])))
      (none)⟩
  | _ => none

def slices_IndexFunc_Txn_Danger_2_v0 : q13T → List AV := (fun x => [.lst tTxn x.1, .fn 108 [.bp 0 0, .bp 1 0], .int .i64 x.2.1, .int .i64 x.2.2.1, .int .i64 x.2.2.2.1])
def slices_IndexFunc_Txn_Danger_2_s0 : q13T → St := (fun x => [.box [.int .i64 x.2.2.2.2.1, .int .i64 x.2.2.2.2.2.1, .int .i64 x.2.2.2.2.2.2.1, .int .i64 x.2.2.2.2.2.2.2.1, .lst tRange x.2.2.2.2.2.2.2.2.1, .lst tWrite x.2.2.2.2.2.2.2.2.2.1, .bool x.2.2.2.2.2.2.2.2.2.2.1, .str x.2.2.2.2.2.2.2.2.2.2.2.1], .box [.lst tTxn x.2.2.2.2.2.2.2.2.2.2.2.2]])
def slices_IndexFunc_Txn_Danger_2_e0 : (q13T ⊕ q13T) → Out × List AV × St := (Sum.elim (fun z => (.ret, [.lst tTxn z.1, .fn 108 [.bp 0 0, .bp 1 0], .int .i64 z.2.1, .int .i64 z.2.2.1, .int .i64 z.2.2.2.1], [.box [.int .i64 z.2.2.2.2.1, .int .i64 z.2.2.2.2.2.1, .int .i64 z.2.2.2.2.2.2.1, .int .i64 z.2.2.2.2.2.2.2.1, .lst tRange z.2.2.2.2.2.2.2.2.1, .lst tWrite z.2.2.2.2.2.2.2.2.2.1, .bool z.2.2.2.2.2.2.2.2.2.2.1, .str z.2.2.2.2.2.2.2.2.2.2.2.1], .box [.lst tTxn z.2.2.2.2.2.2.2.2.2.2.2.2]])) (fun z => ((.exit 0), [.lst tTxn z.1, .fn 108 [.bp 0 0, .bp 1 0], .int .i64 z.2.1, .int .i64 z.2.2.1, .int .i64 z.2.2.2.1], [.box [.int .i64 z.2.2.2.2.1, .int .i64 z.2.2.2.2.2.1, .int .i64 z.2.2.2.2.2.2.1, .int .i64 z.2.2.2.2.2.2.2.1, .lst tRange z.2.2.2.2.2.2.2.2.1, .lst tWrite z.2.2.2.2.2.2.2.2.2.1, .bool z.2.2.2.2.2.2.2.2.2.2.1, .str z.2.2.2.2.2.2.2.2.2.2.2.1], .box [.lst tTxn z.2.2.2.2.2.2.2.2.2.2.2.2]])))

theorem slices_IndexFunc_Txn_Danger_2_bx0 (x : q13T) : exec G47 ⟨2, 19, slices_IndexFunc_Txn_Danger_2_loops⟩ (loopBody Try.f81 0) (bodyK ⟨2, 19, slices_IndexFunc_Txn_Danger_2_loops⟩ [0, 1, 4, 7, 8] []) (setEs (deads 19) [0, 1, 4, 7, 8] (slices_IndexFunc_Txn_Danger_2_v0 x)) (slices_IndexFunc_Txn_Danger_2_s0 x) = slices_IndexFunc_Txn_Danger_2_b0 x (Sum.elim (fun y => some ⟨.norm, slices_IndexFunc_Txn_Danger_2_v0 y, slices_IndexFunc_Txn_Danger_2_s0 y⟩) fun z => some ⟨(slices_IndexFunc_Txn_Danger_2_e0 z).1, (slices_IndexFunc_Txn_Danger_2_e0 z).2.1, (slices_IndexFunc_Txn_Danger_2_e0 z).2.2⟩) := by
  kernel_rfl

theorem slices_IndexFunc_Txn_Danger_2_lo0 : ∀ sp, (slices_IndexFunc_Txn_Danger_2_loops 0) = some sp → LoopOk G47 ⟨2, 19, slices_IndexFunc_Txn_Danger_2_loops⟩ sp (loopBody Try.f81 0) := by
  intro sp hsp vals st k r h
  cases hsp
  dsimp only at h
  rcases onPats_inv2 h with ⟨p, q, rfl, rfl, h⟩ | h
  · exact loop_runs2 slices_IndexFunc_Txn_Danger_2_bp0 slices_IndexFunc_Txn_Danger_2_v0 slices_IndexFunc_Txn_Danger_2_s0 slices_IndexFunc_Txn_Danger_2_e0 (fun z => by rcases z with z | z <;> (intro h; cases h)) slices_IndexFunc_Txn_Danger_2_bx0 Fuel (p.1, p.2.2.1, p.2.2.2.1, p.2.2.2.2.1, q.1.1, q.1.2.1, q.1.2.2.1, q.1.2.2.2.1, q.1.2.2.2.2.1, q.1.2.2.2.2.2.1, q.1.2.2.2.2.2.2.1, q.1.2.2.2.2.2.2.2.1, q.2.1.1) _ k r (fun z => by rcases z with z | z <;> rfl) h
  cases h

theorem slices_IndexFunc_Txn_Danger_2_y (a0 : (List dTxn)) (a1 : Int) (a2 : Int) (a3 : Int) (a4 : Int) (a5 : (List dRange)) (a6 : (List dWrite)) (a7 : Bool) (a8 : ByteArray) (a9 : (List dTxn)) : execFn G47 slices_IndexFunc_Txn_Danger_2_loops Try.f81 [.lst tTxn a0, .fn 108 [.bp 0 0, .bp 1 0]] [.box [.int .i64 a1, .int .i64 a2, .int .i64 a3, .int .i64 a4, .lst tRange a5, .lst tWrite a6, .bool a7, .str a8], .box [.lst tTxn a9]] = slices_IndexFunc_Txn_Danger_2_k a0 a1 a2 a3 a4 a5 a6 a7 a8 a9 (fun (y : q40T) => some ⟨.ret, [.int .i64 y.1], [.box [.int .i64 y.2.1, .int .i64 y.2.2.1, .int .i64 y.2.2.2.1, .int .i64 y.2.2.2.2.1, .lst tRange y.2.2.2.2.2.1, .lst tWrite y.2.2.2.2.2.2.1, .bool y.2.2.2.2.2.2.2.1, .str y.2.2.2.2.2.2.2.2.1], .box [.lst tTxn y.2.2.2.2.2.2.2.2.2]]⟩) := by rw [slices_IndexFunc_Txn_Danger_2_e]; kernel_rfl

theorem slices_IndexFunc_Txn_Danger_2_l : LoopsOk G47 ⟨2, 19, slices_IndexFunc_Txn_Danger_2_loops⟩ (Try.f81.body.getD .skip) :=
  loopsOk_of (ids := [0]) (by kernel_rfl) (by kernel_rfl) ⟨slices_IndexFunc_Txn_Danger_2_lo0, trivial⟩

theorem slices_IndexFunc_Txn_c5 : Contract Try.prog 81 slices_IndexFunc_Txn_g5 := by
  refine told2 G47_ok follows Try.func81 (c := Try.f81.body.getD .skip) (by kernel_rfl) slices_IndexFunc_Txn_c4 ?_
  intro args s k r hk
  unfold slices_IndexFunc_Txn_g5 at hk
  rcases onPats_inv hk with ⟨p, q, rfl, rfl⟩ | hk
  · exact .inl ⟨slices_IndexFunc_Txn_Danger_2_loops, slices_IndexFunc_Txn_Danger_2_q p.1 q.1.1 q.1.2.1 q.1.2.2.1 q.1.2.2.2.1 q.1.2.2.2.2.1 q.1.2.2.2.2.2.1 q.1.2.2.2.2.2.2.1 q.1.2.2.2.2.2.2.2.1 q.2.1.1, slices_IndexFunc_Txn_Danger_2_y p.1 q.1.1 q.1.2.1 q.1.2.2.1 q.1.2.2.2.1 q.1.2.2.2.2.1 q.1.2.2.2.2.2.1 q.1.2.2.2.2.2.2.1 q.1.2.2.2.2.2.2.2.1 q.2.1.1, slices_IndexFunc_Txn_Danger_2_l⟩
  exact .inr hk

def G48 : Glob := G47.add 81 slices_IndexFunc_Txn_g5

theorem G48_ok : GlobOk Try.prog G48 := G47_ok.add ⟨Try.f81, Try.func81, by kernel_rfl, by kernel_rfl⟩ slices_IndexFunc_Txn_c5



def slices_ContainsFunc_Txn_Danger_2_loops : Nat → Option LoopSpec
  | _ => none

theorem slices_ContainsFunc_Txn_Danger_2_y (a0 : (List dTxn)) (a1 : Int) (a2 : Int) (a3 : Int) (a4 : Int) (a5 : (List dRange)) (a6 : (List dWrite)) (a7 : Bool) (a8 : ByteArray) (a9 : (List dTxn)) : execFn G48 slices_ContainsFunc_Txn_Danger_2_loops Try.f178 [.lst tTxn a0, .fn 108 [.bp 0 0, .bp 1 0]] [.box [.int .i64 a1, .int .i64 a2, .int .i64 a3, .int .i64 a4, .lst tRange a5, .lst tWrite a6, .bool a7, .str a8], .box [.lst tTxn a9]] = slices_ContainsFunc_Txn_Danger_2_k a0 a1 a2 a3 a4 a5 a6 a7 a8 a9 (fun (y : q27T) => some ⟨.ret, [.bool y.1], [.box [.int .i64 y.2.1, .int .i64 y.2.2.1, .int .i64 y.2.2.2.1, .int .i64 y.2.2.2.2.1, .lst tRange y.2.2.2.2.2.1, .lst tWrite y.2.2.2.2.2.2.1, .bool y.2.2.2.2.2.2.2.1, .str y.2.2.2.2.2.2.2.2.1], .box [.lst tTxn y.2.2.2.2.2.2.2.2.2]]⟩) := by rw [slices_ContainsFunc_Txn_Danger_2_e]; kernel_rfl

theorem slices_ContainsFunc_Txn_Danger_2_l : LoopsOk G48 ⟨2, 9, slices_ContainsFunc_Txn_Danger_2_loops⟩ (Try.f178.body.getD .skip) :=
  loopsOk_of (ids := []) (by kernel_rfl) (by kernel_rfl) trivial

theorem slices_ContainsFunc_Txn_c5 : Contract Try.prog 178 slices_ContainsFunc_Txn_g5 := by
  refine told2 G48_ok follows Try.func178 (c := Try.f178.body.getD .skip) (by kernel_rfl) slices_ContainsFunc_Txn_c4 ?_
  intro args s k r hk
  unfold slices_ContainsFunc_Txn_g5 at hk
  rcases onPats_inv hk with ⟨p, q, rfl, rfl⟩ | hk
  · exact .inl ⟨slices_ContainsFunc_Txn_Danger_2_loops, slices_ContainsFunc_Txn_Danger_2_q p.1 q.1.1 q.1.2.1 q.1.2.2.1 q.1.2.2.2.1 q.1.2.2.2.2.1 q.1.2.2.2.2.2.1 q.1.2.2.2.2.2.2.1 q.1.2.2.2.2.2.2.2.1 q.2.1.1, slices_ContainsFunc_Txn_Danger_2_y p.1 q.1.1 q.1.2.1 q.1.2.2.1 q.1.2.2.2.1 q.1.2.2.2.2.1 q.1.2.2.2.2.2.1 q.1.2.2.2.2.2.2.1 q.1.2.2.2.2.2.2.2.1 q.2.1.1, slices_ContainsFunc_Txn_Danger_2_l⟩
  exact .inr hk

def G49 : Glob := G48.add 178 slices_ContainsFunc_Txn_g5

theorem G49_ok : GlobOk Try.prog G49 := G48_ok.add ⟨Try.f178, Try.func178, by kernel_rfl, by kernel_rfl⟩ slices_ContainsFunc_Txn_c5



def impl_some_Danger_2_loops : Nat → Option LoopSpec
  | _ => none

theorem impl_some_Danger_2_y (a0 : (List dTxn)) (a1 : Int) (a2 : Int) (a3 : Int) (a4 : Int) (a5 : (List dRange)) (a6 : (List dWrite)) (a7 : Bool) (a8 : ByteArray) (a9 : (List dTxn)) : execFn G49 impl_some_Danger_2_loops Try.f100 [.lst tTxn a0, .fn 108 [.bp 0 0, .bp 1 0]] [.box [.int .i64 a1, .int .i64 a2, .int .i64 a3, .int .i64 a4, .lst tRange a5, .lst tWrite a6, .bool a7, .str a8], .box [.lst tTxn a9]] = impl_some_Danger_2_k a0 a1 a2 a3 a4 a5 a6 a7 a8 a9 (fun (y : q27T) => some ⟨.ret, [.bool y.1], [.box [.int .i64 y.2.1, .int .i64 y.2.2.1, .int .i64 y.2.2.2.1, .int .i64 y.2.2.2.2.1, .lst tRange y.2.2.2.2.2.1, .lst tWrite y.2.2.2.2.2.2.1, .bool y.2.2.2.2.2.2.2.1, .str y.2.2.2.2.2.2.2.2.1], .box [.lst tTxn y.2.2.2.2.2.2.2.2.2]]⟩) := by rw [impl_some_Danger_2_e]; kernel_rfl

theorem impl_some_Danger_2_l : LoopsOk G49 ⟨2, 8, impl_some_Danger_2_loops⟩ (Try.f100.body.getD .skip) :=
  loopsOk_of (ids := []) (by kernel_rfl) (by kernel_rfl) trivial

theorem impl_some_c5 : Contract Try.prog 100 impl_some_g5 := by
  refine told2 G49_ok follows Try.func100 (c := Try.f100.body.getD .skip) (by kernel_rfl) impl_some_c4 ?_
  intro args s k r hk
  unfold impl_some_g5 at hk
  rcases onPats_inv hk with ⟨p, q, rfl, rfl⟩ | hk
  · exact .inl ⟨impl_some_Danger_2_loops, impl_some_Danger_2_q p.1 q.1.1 q.1.2.1 q.1.2.2.1 q.1.2.2.2.1 q.1.2.2.2.2.1 q.1.2.2.2.2.2.1 q.1.2.2.2.2.2.2.1 q.1.2.2.2.2.2.2.2.1 q.2.1.1, impl_some_Danger_2_y p.1 q.1.1 q.1.2.1 q.1.2.2.1 q.1.2.2.2.1 q.1.2.2.2.2.1 q.1.2.2.2.2.2.1 q.1.2.2.2.2.2.2.1 q.1.2.2.2.2.2.2.2.1 q.2.1.1, impl_some_Danger_2_l⟩
  exact .inr hk

def G50 : Glob := G49.add 100 impl_some_g5

theorem G50_ok : GlobOk Try.prog G50 := G49_ok.add ⟨Try.f100, Try.func100, by kernel_rfl, by kernel_rfl⟩ impl_some_c5



def impl_Danger_loops : Nat → Option LoopSpec
  | 5000003 => some ⟨[2, 3, 4], [], fun vals st k => onPats [.bp 0 0, .bp 1 0, .bool] [.box [.int .i64, .int .i64, .int .i64, .int .i64, .lst tRange, .lst tWrite, .bool, .str], .box [.lst tTxn]] vals st (fun p q => impl_Danger_j5000003 (p.2.2.1, q.1.1, q.1.2.1, q.1.2.2.1, q.1.2.2.2.1, q.1.2.2.2.2.1, q.1.2.2.2.2.2.1, q.1.2.2.2.2.2.2.1, q.1.2.2.2.2.2.2.2.1, q.2.1.1) (fun z => k .ret [.bp 0 0, .bp 1 0, .bool z.1] [.box [.int .i64 z.2.1, .int .i64 z.2.2.1, .int .i64 z.2.2.2.1, .int .i64 z.2.2.2.2.1, .lst tRange z.2.2.2.2.2.1, .lst tWrite z.2.2.2.2.2.2.1, .bool z.2.2.2.2.2.2.2.1, .str z.2.2.2.2.2.2.2.2.1], .box [.lst tTxn z.2.2.2.2.2.2.2.2.2]]))
      (none)⟩
  | _ => none

def impl_Danger_jv5000003 : q27T → List AV := (fun x => [.bp 0 0, .bp 1 0, .bool x.1])
def impl_Danger_js5000003 : q27T → St := (fun x => [.box [.int .i64 x.2.1, .int .i64 x.2.2.1, .int .i64 x.2.2.2.1, .int .i64 x.2.2.2.2.1, .lst tRange x.2.2.2.2.2.1, .lst tWrite x.2.2.2.2.2.2.1, .bool x.2.2.2.2.2.2.2.1, .str x.2.2.2.2.2.2.2.2.1], .box [.lst tTxn x.2.2.2.2.2.2.2.2.2]])
def impl_Danger_je5000003 : q27T → Out × List AV × St := (fun z => (.ret, [.bp 0 0, .bp 1 0, .bool z.1], [.box [.int .i64 z.2.1, .int .i64 z.2.2.1, .int .i64 z.2.2.2.1, .int .i64 z.2.2.2.2.1, .lst tRange z.2.2.2.2.2.1, .lst tWrite z.2.2.2.2.2.2.1, .bool z.2.2.2.2.2.2.2.1, .str z.2.2.2.2.2.2.2.2.1], .box [.lst tTxn z.2.2.2.2.2.2.2.2.2]]))

theorem impl_Danger_jx5000003 (x : q27T) : exec G50 ⟨0, 19, impl_Danger_loops⟩ (loopBody Try.f30 5000003) (bodyK ⟨0, 19, impl_Danger_loops⟩ [2, 3, 4] []) (setEs (deads 19) [2, 3, 4] (impl_Danger_jv5000003 x)) (impl_Danger_js5000003 x) = impl_Danger_j5000003 x (fun z => some ⟨(impl_Danger_je5000003 z).1, (impl_Danger_je5000003 z).2.1, (impl_Danger_je5000003 z).2.2⟩) := by
  kernel_rfl

theorem impl_Danger_lo5000003 : ∀ sp, (impl_Danger_loops 5000003) = some sp → CutOk G50 ⟨0, 19, impl_Danger_loops⟩ sp (loopBody Try.f30 5000003) := by
  intro sp hsp vals st k r h
  cases hsp
  dsimp only at h
  rcases onPats_inv2 h with ⟨p, q, rfl, rfl, h⟩ | h
  · exact cut_runs impl_Danger_jp5000003 impl_Danger_jv5000003 impl_Danger_js5000003 impl_Danger_je5000003 impl_Danger_jx5000003 (p.2.2.1, q.1.1, q.1.2.1, q.1.2.2.1, q.1.2.2.2.1, q.1.2.2.2.2.1, q.1.2.2.2.2.2.1, q.1.2.2.2.2.2.2.1, q.1.2.2.2.2.2.2.2.1, q.2.1.1) _ k r (fun z => rfl) h
  cases h

theorem impl_Danger_y (a0 : Int) (a1 : Int) (a2 : Int) (a3 : Int) (a4 : (List dRange)) (a5 : (List dWrite)) (a6 : Bool) (a7 : ByteArray) (a8 : (List dTxn)) : execFn G50 impl_Danger_loops Try.f30 [.agg [.int .i64 a0, .int .i64 a1, .int .i64 a2, .int .i64 a3, .lst tRange a4, .lst tWrite a5, .bool a6, .str a7], .lst tTxn a8] [] = impl_Danger_k (a0, (a1, (a2, (a3, (a4, (a5, (a6, a7))))))) a8 (fun (y : Bool) => some ⟨.ret, [.bool y], []⟩) := by rw [impl_Danger_e]; kernel_rfl

theorem impl_Danger_l : LoopsOk G50 ⟨0, 19, impl_Danger_loops⟩ (Try.f30.body.getD .skip) :=
  loopsOk_of (ids := [5000003]) (by kernel_rfl) (by kernel_rfl) ⟨impl_Danger_lo5000003, trivial⟩

theorem impl_Danger_c : Contract Try.prog 30 impl_Danger_g := by
  refine told G50_ok follows Try.func30 (c := Try.f30.body.getD .skip) (by kernel_rfl) ?_
  intro args s k r hk
  unfold impl_Danger_g at hk
  rcases onPats_inv hk with ⟨p, q, rfl, rfl⟩ | hk
  · exact ⟨impl_Danger_loops, impl_Danger_q p.1.1 p.1.2.1 p.1.2.2.1 p.1.2.2.2.1 p.1.2.2.2.2.1 p.1.2.2.2.2.2.1 p.1.2.2.2.2.2.2.1 p.1.2.2.2.2.2.2.2.1 p.2.1, impl_Danger_y p.1.1 p.1.2.1 p.1.2.2.1 p.1.2.2.2.1 p.1.2.2.2.2.1 p.1.2.2.2.2.2.1 p.1.2.2.2.2.2.2.1 p.1.2.2.2.2.2.2.2.1 p.2.1, impl_Danger_l⟩
  cases hk

def G51 : Glob := G50.add 30 impl_Danger_g

theorem G51_ok : GlobOk Try.prog G51 := G50_ok.add ⟨Try.f30, Try.func30, by kernel_rfl, by kernel_rfl⟩ impl_Danger_c



def spec_Beside_loops : Nat → Option LoopSpec
  | _ => none

theorem spec_Beside_y (a0 : Int) (a1 : Int) (a2 : Int) (a3 : Int) (a4 : (List dRange)) (a5 : (List dWrite)) (a6 : Bool) (a7 : ByteArray) (a8 : Int) (a9 : Int) (a10 : Int) (a11 : Int) (a12 : (List dRange)) (a13 : (List dWrite)) (a14 : Bool) (a15 : ByteArray) : execFn G51 spec_Beside_loops Try.f182 [.agg [.int .i64 a0, .int .i64 a1, .int .i64 a2, .int .i64 a3, .lst tRange a4, .lst tWrite a5, .bool a6, .str a7], .agg [.int .i64 a8, .int .i64 a9, .int .i64 a10, .int .i64 a11, .lst tRange a12, .lst tWrite a13, .bool a14, .str a15]] [] = spec_Beside_k (a0, (a1, (a2, (a3, (a4, (a5, (a6, a7))))))) (a8, (a9, (a10, (a11, (a12, (a13, (a14, a15))))))) (fun (y : Bool) => some ⟨.ret, [.bool y], []⟩) := by rw [spec_Beside_e]; kernel_rfl

theorem spec_Beside_l : LoopsOk G51 ⟨0, 32, spec_Beside_loops⟩ (Try.f182.body.getD .skip) :=
  loopsOk_of (ids := []) (by kernel_rfl) (by kernel_rfl) trivial

theorem spec_Beside_c : Contract Try.prog 182 spec_Beside_g := by
  refine told G51_ok follows Try.func182 (c := Try.f182.body.getD .skip) (by kernel_rfl) ?_
  intro args s k r hk
  unfold spec_Beside_g at hk
  rcases onPats_inv hk with ⟨p, q, rfl, rfl⟩ | hk
  · exact ⟨spec_Beside_loops, spec_Beside_q p.1.1 p.1.2.1 p.1.2.2.1 p.1.2.2.2.1 p.1.2.2.2.2.1 p.1.2.2.2.2.2.1 p.1.2.2.2.2.2.2.1 p.1.2.2.2.2.2.2.2.1 p.2.1.1 p.2.1.2.1 p.2.1.2.2.1 p.2.1.2.2.2.1 p.2.1.2.2.2.2.1 p.2.1.2.2.2.2.2.1 p.2.1.2.2.2.2.2.2.1 p.2.1.2.2.2.2.2.2.2.1, spec_Beside_y p.1.1 p.1.2.1 p.1.2.2.1 p.1.2.2.2.1 p.1.2.2.2.2.1 p.1.2.2.2.2.2.1 p.1.2.2.2.2.2.2.1 p.1.2.2.2.2.2.2.2.1 p.2.1.1 p.2.1.2.1 p.2.1.2.2.1 p.2.1.2.2.2.1 p.2.1.2.2.2.2.1 p.2.1.2.2.2.2.2.1 p.2.1.2.2.2.2.2.2.1 p.2.1.2.2.2.2.2.2.2.1, spec_Beside_l⟩
  cases hk

def G52 : Glob := G51.add 182 spec_Beside_g

theorem G52_ok : GlobOk Try.prog G52 := G51_ok.add ⟨Try.f182, Try.func182, by kernel_rfl, by kernel_rfl⟩ spec_Beside_c



def spec_InRange_loops : Nat → Option LoopSpec
  | _ => none

theorem spec_InRange_y (a0 : ByteArray) (a1 : ByteArray) (a2 : ByteArray) : execFn G52 spec_InRange_loops Try.f203 [.agg [.str a0, .str a1], .str a2] [] = spec_InRange_k (a0, a1) a2 (fun (y : Bool) => some ⟨.ret, [.bool y], []⟩) := by rw [spec_InRange_e]; kernel_rfl

theorem spec_InRange_l : LoopsOk G52 ⟨0, 15, spec_InRange_loops⟩ (Try.f203.body.getD .skip) :=
  loopsOk_of (ids := []) (by kernel_rfl) (by kernel_rfl) trivial

theorem spec_InRange_c : Contract Try.prog 203 spec_InRange_g := by
  refine told G52_ok follows Try.func203 (c := Try.f203.body.getD .skip) (by kernel_rfl) ?_
  intro args s k r hk
  unfold spec_InRange_g at hk
  rcases onPats_inv hk with ⟨p, q, rfl, rfl⟩ | hk
  · exact ⟨spec_InRange_loops, spec_InRange_q p.1.1 p.1.2.1 p.2.1, spec_InRange_y p.1.1 p.1.2.1 p.2.1, spec_InRange_l⟩
  cases hk

def G53 : Glob := G52.add 203 spec_InRange_g

theorem G53_ok : GlobOk Try.prog G53 := G52_ok.add ⟨Try.f203, Try.func203, by kernel_rfl, by kernel_rfl⟩ spec_InRange_c



def spec_Touches_loops : Nat → Option LoopSpec
  | 2 => some ⟨[0, 1, 4, 5, 6], [], fun vals st k => onPats [.lst tRange, .lst tWrite, .bool, .int .i64, .int .i64] [] vals st (fun p q => loopK spec_Touches_b2 Fuel (p.1, p.2.1, p.2.2.1, p.2.2.2.1, p.2.2.2.2.1) (Sum.elim (fun z => k .ret [.lst tRange z.1, .lst tWrite z.2.1, .bool z.2.2.1, .int .i64 z.2.2.2.1, .int .i64 z.2.2.2.2] []) (fun z => k (.exit 2) [.lst tRange z.1, .lst tWrite z.2.1, .bool z.2.2.1, .int .i64 z.2.2.2.1, .int .i64 z.2.2.2.2] [])))
      (none)⟩
  | 0 => some ⟨[0, 1, 4, 5], [], fun vals st k => onPats [.lst tRange, .lst tWrite, .bool, .int .i64] [] vals st (fun p q => loopK spec_Touches_b0 Fuel (p.1, p.2.1, p.2.2.1, p.2.2.2.1) (Sum.elim (fun z => k (.exit 0) [.lst tRange z.1, .lst tWrite z.2.1, .bool z.2.2.1, .int .i64 z.2.2.2] []) (fun z => k .ret [.lst tRange z.1, .lst tWrite z.2.1, .bool z.2.2.1, .int .i64 z.2.2.2] [])))
      (none)⟩
  | 2000007 => some ⟨[0, 2, 4, 6, 8, 10, 12, 14, 16, 18], [], fun _ _ _ => none⟩
  | _ => none

def spec_Touches_v2 : q3T → List AV := (fun x => [.lst tRange x.1, .lst tWrite x.2.1, .bool x.2.2.1, .int .i64 x.2.2.2.1, .int .i64 x.2.2.2.2])
def spec_Touches_s2 : q3T → St := (fun x => [])
def spec_Touches_e2 : (q3T ⊕ q3T) → Out × List AV × St := (Sum.elim (fun z => (.ret, [.lst tRange z.1, .lst tWrite z.2.1, .bool z.2.2.1, .int .i64 z.2.2.2.1, .int .i64 z.2.2.2.2], [])) (fun z => ((.exit 2), [.lst tRange z.1, .lst tWrite z.2.1, .bool z.2.2.1, .int .i64 z.2.2.2.1, .int .i64 z.2.2.2.2], [])))

theorem spec_Touches_bx2 (x : q3T) : exec G53 ⟨0, 29, spec_Touches_loops⟩ (loopBody Try.f183 2) (bodyK ⟨0, 29, spec_Touches_loops⟩ [0, 1, 4, 5, 6] []) (setEs (deads 29) [0, 1, 4, 5, 6] (spec_Touches_v2 x)) (spec_Touches_s2 x) = spec_Touches_b2 x (Sum.elim (fun y => some ⟨.norm, spec_Touches_v2 y, spec_Touches_s2 y⟩) fun z => some ⟨(spec_Touches_e2 z).1, (spec_Touches_e2 z).2.1, (spec_Touches_e2 z).2.2⟩) := by
  kernel_rfl

theorem spec_Touches_lo2 : ∀ sp, (spec_Touches_loops 2) = some sp → LoopOk G53 ⟨0, 29, spec_Touches_loops⟩ sp (loopBody Try.f183 2) := by
  intro sp hsp vals st k r h
  cases hsp
  dsimp only at h
  rcases onPats_inv2 h with ⟨p, q, rfl, rfl, h⟩ | h
  · exact loop_runs2 spec_Touches_bp2 spec_Touches_v2 spec_Touches_s2 spec_Touches_e2 (fun z => by rcases z with z | z <;> (intro h; cases h)) spec_Touches_bx2 Fuel (p.1, p.2.1, p.2.2.1, p.2.2.2.1, p.2.2.2.2.1) _ k r (fun z => by rcases z with z | z <;> rfl) h
  cases h

def spec_Touches_v0 : q4T → List AV := (fun x => [.lst tRange x.1, .lst tWrite x.2.1, .bool x.2.2.1, .int .i64 x.2.2.2])
def spec_Touches_s0 : q4T → St := (fun x => [])
def spec_Touches_e0 : (q4T ⊕ q4T) → Out × List AV × St := (Sum.elim (fun z => ((.exit 0), [.lst tRange z.1, .lst tWrite z.2.1, .bool z.2.2.1, .int .i64 z.2.2.2], [])) (fun z => (.ret, [.lst tRange z.1, .lst tWrite z.2.1, .bool z.2.2.1, .int .i64 z.2.2.2], [])))

theorem spec_Touches_bx0 (x : q4T) : exec G53 ⟨0, 29, spec_Touches_loops⟩ (loopBody Try.f183 0) (bodyK ⟨0, 29, spec_Touches_loops⟩ [0, 1, 4, 5] []) (setEs (deads 29) [0, 1, 4, 5] (spec_Touches_v0 x)) (spec_Touches_s0 x) = spec_Touches_b0 x (Sum.elim (fun y => some ⟨.norm, spec_Touches_v0 y, spec_Touches_s0 y⟩) fun z => some ⟨(spec_Touches_e0 z).1, (spec_Touches_e0 z).2.1, (spec_Touches_e0 z).2.2⟩) := by
  kernel_rfl

theorem spec_Touches_lo0 : ∀ sp, (spec_Touches_loops 0) = some sp → LoopOk G53 ⟨0, 29, spec_Touches_loops⟩ sp (loopBody Try.f183 0) := by
  intro sp hsp vals st k r h
  cases hsp
  dsimp only at h
  rcases onPats_inv2 h with ⟨p, q, rfl, rfl, h⟩ | h
  · exact loop_runs2 spec_Touches_bp0 spec_Touches_v0 spec_Touches_s0 spec_Touches_e0 (fun z => by rcases z with z | z <;> (intro h; cases h)) spec_Touches_bx0 Fuel (p.1, p.2.1, p.2.2.1, p.2.2.2.1) _ k r (fun z => by rcases z with z | z <;> rfl) h
  cases h

theorem spec_Touches_y (a0 : (List dRange)) (a1 : (List dWrite)) : execFn G53 spec_Touches_loops Try.f183 [.lst tRange a0, .lst tWrite a1] [] = spec_Touches_k a0 a1 (fun (y : Bool) => some ⟨.ret, [.bool y], []⟩) := by rw [spec_Touches_e]; kernel_rfl

theorem spec_Touches_l : LoopsOk G53 ⟨0, 29, spec_Touches_loops⟩ (Try.f183.body.getD .skip) :=
  loopsOk_of (ids := [2, 0]) (by kernel_rfl) (by kernel_rfl) ⟨spec_Touches_lo2, ⟨spec_Touches_lo0, trivial⟩⟩

theorem spec_Touches_c : Contract Try.prog 183 spec_Touches_g := by
  refine told G53_ok follows Try.func183 (c := Try.f183.body.getD .skip) (by kernel_rfl) ?_
  intro args s k r hk
  unfold spec_Touches_g at hk
  rcases onPats_inv hk with ⟨p, q, rfl, rfl⟩ | hk
  · exact ⟨spec_Touches_loops, spec_Touches_q p.1 p.2.1, spec_Touches_y p.1 p.2.1, spec_Touches_l⟩
  cases hk

def G54 : Glob := G53.add 183 spec_Touches_g

theorem G54_ok : GlobOk Try.prog G54 := G53_ok.add ⟨Try.f183, Try.func183, by kernel_rfl, by kernel_rfl⟩ spec_Touches_c



def spec_Ahead_loops : Nat → Option LoopSpec
  | _ => none

theorem spec_Ahead_y (a0 : Int) (a1 : Int) (a2 : Int) (a3 : Int) (a4 : (List dRange)) (a5 : (List dWrite)) (a6 : Bool) (a7 : ByteArray) (a8 : Int) (a9 : Int) (a10 : Int) (a11 : Int) (a12 : (List dRange)) (a13 : (List dWrite)) (a14 : Bool) (a15 : ByteArray) : execFn G54 spec_Ahead_loops Try.f110 [.agg [.int .i64 a0, .int .i64 a1, .int .i64 a2, .int .i64 a3, .lst tRange a4, .lst tWrite a5, .bool a6, .str a7], .agg [.int .i64 a8, .int .i64 a9, .int .i64 a10, .int .i64 a11, .lst tRange a12, .lst tWrite a13, .bool a14, .str a15]] [] = spec_Ahead_k (a0, (a1, (a2, (a3, (a4, (a5, (a6, a7))))))) (a8, (a9, (a10, (a11, (a12, (a13, (a14, a15))))))) (fun (y : Bool) => some ⟨.ret, [.bool y], []⟩) := by rw [spec_Ahead_e]; kernel_rfl

theorem spec_Ahead_l : LoopsOk G54 ⟨0, 15, spec_Ahead_loops⟩ (Try.f110.body.getD .skip) :=
  loopsOk_of (ids := []) (by kernel_rfl) (by kernel_rfl) trivial

theorem spec_Ahead_c : Contract Try.prog 110 spec_Ahead_g := by
  refine told G54_ok follows Try.func110 (c := Try.f110.body.getD .skip) (by kernel_rfl) ?_
  intro args s k r hk
  unfold spec_Ahead_g at hk
  rcases onPats_inv hk with ⟨p, q, rfl, rfl⟩ | hk
  · exact ⟨spec_Ahead_loops, spec_Ahead_q p.1.1 p.1.2.1 p.1.2.2.1 p.1.2.2.2.1 p.1.2.2.2.2.1 p.1.2.2.2.2.2.1 p.1.2.2.2.2.2.2.1 p.1.2.2.2.2.2.2.2.1 p.2.1.1 p.2.1.2.1 p.2.1.2.2.1 p.2.1.2.2.2.1 p.2.1.2.2.2.2.1 p.2.1.2.2.2.2.2.1 p.2.1.2.2.2.2.2.2.1 p.2.1.2.2.2.2.2.2.2.1, spec_Ahead_y p.1.1 p.1.2.1 p.1.2.2.1 p.1.2.2.2.1 p.1.2.2.2.2.1 p.1.2.2.2.2.2.1 p.1.2.2.2.2.2.2.1 p.1.2.2.2.2.2.2.2.1 p.2.1.1 p.2.1.2.1 p.2.1.2.2.1 p.2.1.2.2.2.1 p.2.1.2.2.2.2.1 p.2.1.2.2.2.2.2.1 p.2.1.2.2.2.2.2.2.1 p.2.1.2.2.2.2.2.2.2.1, spec_Ahead_l⟩
  cases hk

def G55 : Glob := G54.add 110 spec_Ahead_g

theorem G55_ok : GlobOk Try.prog G55 := G54_ok.add ⟨Try.f110, Try.func110, by kernel_rfl, by kernel_rfl⟩ spec_Ahead_c



def spec_InOf_loops : Nat → Option LoopSpec
  | 0 => some ⟨[1, 2, 4, 5], [], fun vals st k => onPats [.lst tTxn, .bp 0 0, .bool, .int .i64] [.box [.int .i64, .int .i64, .int .i64, .int .i64, .lst tRange, .lst tWrite, .bool, .str]] vals st (fun p q => loopK spec_InOf_b0 Fuel (p.1, p.2.2.1, p.2.2.2.1, q.1.1, q.1.2.1, q.1.2.2.1, q.1.2.2.2.1, q.1.2.2.2.2.1, q.1.2.2.2.2.2.1, q.1.2.2.2.2.2.2.1, q.1.2.2.2.2.2.2.2.1) (Sum.elim (fun z => k .ret [.lst tTxn z.1, .bp 0 0, .bool z.2.1, .int .i64 z.2.2.1] [.box [.int .i64 z.2.2.2.1, .int .i64 z.2.2.2.2.1, .int .i64 z.2.2.2.2.2.1, .int .i64 z.2.2.2.2.2.2.1, .lst tRange z.2.2.2.2.2.2.2.1, .lst tWrite z.2.2.2.2.2.2.2.2.1, .bool z.2.2.2.2.2.2.2.2.2.1, .str z.2.2.2.2.2.2.2.2.2.2]]) (fun z => k (.exit 0) [.lst tTxn z.1, .bp 0 0, .bool z.2.1, .int .i64 z.2.2.1] [.box [.int .i64 z.2.2.2.1, .int .i64 z.2.2.2.2.1, .int .i64 z.2.2.2.2.2.1, .int .i64 z.2.2.2.2.2.2.1, .lst tRange z.2.2.2.2.2.2.2.1, .lst tWrite z.2.2.2.2.2.2.2.2.1, .bool z.2.2.2.2.2.2.2.2.2.1, .str z.2.2.2.2.2.2.2.2.2.2]])))
      (none)⟩
  | 2000004 => some ⟨[0, 2, 4, 6, 8, 10, 12, 14, 16, 18, 20, 22, 24, 26, 28, 30, 32, 34, 36, 38, 41, 42], [], fun _ _ _ => none⟩
  | _ => none

def spec_InOf_v0 : q10T → List AV := (fun x => [.lst tTxn x.1, .bp 0 0, .bool x.2.1, .int .i64 x.2.2.1])
def spec_InOf_s0 : q10T → St := (fun x => [.box [.int .i64 x.2.2.2.1, .int .i64 x.2.2.2.2.1, .int .i64 x.2.2.2.2.2.1, .int .i64 x.2.2.2.2.2.2.1, .lst tRange x.2.2.2.2.2.2.2.1, .lst tWrite x.2.2.2.2.2.2.2.2.1, .bool x.2.2.2.2.2.2.2.2.2.1, .str x.2.2.2.2.2.2.2.2.2.2]])
def spec_InOf_e0 : (q10T ⊕ q10T) → Out × List AV × St := (Sum.elim (fun z => (.ret, [.lst tTxn z.1, .bp 0 0, .bool z.2.1, .int .i64 z.2.2.1], [.box [.int .i64 z.2.2.2.1, .int .i64 z.2.2.2.2.1, .int .i64 z.2.2.2.2.2.1, .int .i64 z.2.2.2.2.2.2.1, .lst tRange z.2.2.2.2.2.2.2.1, .lst tWrite z.2.2.2.2.2.2.2.2.1, .bool z.2.2.2.2.2.2.2.2.2.1, .str z.2.2.2.2.2.2.2.2.2.2]])) (fun z => ((.exit 0), [.lst tTxn z.1, .bp 0 0, .bool z.2.1, .int .i64 z.2.2.1], [.box [.int .i64 z.2.2.2.1, .int .i64 z.2.2.2.2.1, .int .i64 z.2.2.2.2.2.1, .int .i64 z.2.2.2.2.2.2.1, .lst tRange z.2.2.2.2.2.2.2.1, .lst tWrite z.2.2.2.2.2.2.2.2.1, .bool z.2.2.2.2.2.2.2.2.2.1, .str z.2.2.2.2.2.2.2.2.2.2]])))

theorem spec_InOf_bx0 (x : q10T) : exec G55 ⟨0, 34, spec_InOf_loops⟩ (loopBody Try.f36 0) (bodyK ⟨0, 34, spec_InOf_loops⟩ [1, 2, 4, 5] []) (setEs (deads 34) [1, 2, 4, 5] (spec_InOf_v0 x)) (spec_InOf_s0 x) = spec_InOf_b0 x (Sum.elim (fun y => some ⟨.norm, spec_InOf_v0 y, spec_InOf_s0 y⟩) fun z => some ⟨(spec_InOf_e0 z).1, (spec_InOf_e0 z).2.1, (spec_InOf_e0 z).2.2⟩) := by
  kernel_rfl

theorem spec_InOf_lo0 : ∀ sp, (spec_InOf_loops 0) = some sp → LoopOk G55 ⟨0, 34, spec_InOf_loops⟩ sp (loopBody Try.f36 0) := by
  intro sp hsp vals st k r h
  cases hsp
  dsimp only at h
  rcases onPats_inv2 h with ⟨p, q, rfl, rfl, h⟩ | h
  · exact loop_runs2 spec_InOf_bp0 spec_InOf_v0 spec_InOf_s0 spec_InOf_e0 (fun z => by rcases z with z | z <;> (intro h; cases h)) spec_InOf_bx0 Fuel (p.1, p.2.2.1, p.2.2.2.1, q.1.1, q.1.2.1, q.1.2.2.1, q.1.2.2.2.1, q.1.2.2.2.2.1, q.1.2.2.2.2.2.1, q.1.2.2.2.2.2.2.1, q.1.2.2.2.2.2.2.2.1) _ k r (fun z => by rcases z with z | z <;> rfl) h
  cases h

theorem spec_InOf_y (a0 : Int) (a1 : Int) (a2 : Int) (a3 : Int) (a4 : (List dRange)) (a5 : (List dWrite)) (a6 : Bool) (a7 : ByteArray) (a8 : (List dTxn)) : execFn G55 spec_InOf_loops Try.f36 [.agg [.int .i64 a0, .int .i64 a1, .int .i64 a2, .int .i64 a3, .lst tRange a4, .lst tWrite a5, .bool a6, .str a7], .lst tTxn a8] [] = spec_InOf_k (a0, (a1, (a2, (a3, (a4, (a5, (a6, a7))))))) a8 (fun (y : Bool) => some ⟨.ret, [.bool y], []⟩) := by rw [spec_InOf_e]; kernel_rfl

theorem spec_InOf_l : LoopsOk G55 ⟨0, 34, spec_InOf_loops⟩ (Try.f36.body.getD .skip) :=
  loopsOk_of (ids := [0]) (by kernel_rfl) (by kernel_rfl) ⟨spec_InOf_lo0, trivial⟩

theorem spec_InOf_c : Contract Try.prog 36 spec_InOf_g := by
  refine told G55_ok follows Try.func36 (c := Try.f36.body.getD .skip) (by kernel_rfl) ?_
  intro args s k r hk
  unfold spec_InOf_g at hk
  rcases onPats_inv hk with ⟨p, q, rfl, rfl⟩ | hk
  · exact ⟨spec_InOf_loops, spec_InOf_q p.1.1 p.1.2.1 p.1.2.2.1 p.1.2.2.2.1 p.1.2.2.2.2.1 p.1.2.2.2.2.2.1 p.1.2.2.2.2.2.2.1 p.1.2.2.2.2.2.2.2.1 p.2.1, spec_InOf_y p.1.1 p.1.2.1 p.1.2.2.1 p.1.2.2.2.1 p.1.2.2.2.2.1 p.1.2.2.2.2.2.1 p.1.2.2.2.2.2.2.1 p.1.2.2.2.2.2.2.2.1 p.2.1, spec_InOf_l⟩
  cases hk

def G56 : Glob := G55.add 36 spec_InOf_g

theorem G56_ok : GlobOk Try.prog G56 := G55_ok.add ⟨Try.f36, Try.func36, by kernel_rfl, by kernel_rfl⟩ spec_InOf_c



def spec_OutOf_loops : Nat → Option LoopSpec
  | 0 => some ⟨[1, 2, 4, 5], [], fun vals st k => onPats [.lst tTxn, .bp 0 0, .bool, .int .i64] [.box [.int .i64, .int .i64, .int .i64, .int .i64, .lst tRange, .lst tWrite, .bool, .str]] vals st (fun p q => loopK spec_OutOf_b0 Fuel (p.1, p.2.2.1, p.2.2.2.1, q.1.1, q.1.2.1, q.1.2.2.1, q.1.2.2.2.1, q.1.2.2.2.2.1, q.1.2.2.2.2.2.1, q.1.2.2.2.2.2.2.1, q.1.2.2.2.2.2.2.2.1) (Sum.elim (fun z => k .ret [.lst tTxn z.1, .bp 0 0, .bool z.2.1, .int .i64 z.2.2.1] [.box [.int .i64 z.2.2.2.1, .int .i64 z.2.2.2.2.1, .int .i64 z.2.2.2.2.2.1, .int .i64 z.2.2.2.2.2.2.1, .lst tRange z.2.2.2.2.2.2.2.1, .lst tWrite z.2.2.2.2.2.2.2.2.1, .bool z.2.2.2.2.2.2.2.2.2.1, .str z.2.2.2.2.2.2.2.2.2.2]]) (fun z => k (.exit 0) [.lst tTxn z.1, .bp 0 0, .bool z.2.1, .int .i64 z.2.2.1] [.box [.int .i64 z.2.2.2.1, .int .i64 z.2.2.2.2.1, .int .i64 z.2.2.2.2.2.1, .int .i64 z.2.2.2.2.2.2.1, .lst tRange z.2.2.2.2.2.2.2.1, .lst tWrite z.2.2.2.2.2.2.2.2.1, .bool z.2.2.2.2.2.2.2.2.2.1, .str z.2.2.2.2.2.2.2.2.2.2]])))
      (none)⟩
  | 2000004 => some ⟨[0, 2, 4, 6, 8, 10, 12, 14, 16, 18, 20, 22, 25, 26], [], fun _ _ _ => none⟩
  | _ => none

def spec_OutOf_v0 : q10T → List AV := (fun x => [.lst tTxn x.1, .bp 0 0, .bool x.2.1, .int .i64 x.2.2.1])
def spec_OutOf_s0 : q10T → St := (fun x => [.box [.int .i64 x.2.2.2.1, .int .i64 x.2.2.2.2.1, .int .i64 x.2.2.2.2.2.1, .int .i64 x.2.2.2.2.2.2.1, .lst tRange x.2.2.2.2.2.2.2.1, .lst tWrite x.2.2.2.2.2.2.2.2.1, .bool x.2.2.2.2.2.2.2.2.2.1, .str x.2.2.2.2.2.2.2.2.2.2]])
def spec_OutOf_e0 : (q10T ⊕ q10T) → Out × List AV × St := (Sum.elim (fun z => (.ret, [.lst tTxn z.1, .bp 0 0, .bool z.2.1, .int .i64 z.2.2.1], [.box [.int .i64 z.2.2.2.1, .int .i64 z.2.2.2.2.1, .int .i64 z.2.2.2.2.2.1, .int .i64 z.2.2.2.2.2.2.1, .lst tRange z.2.2.2.2.2.2.2.1, .lst tWrite z.2.2.2.2.2.2.2.2.1, .bool z.2.2.2.2.2.2.2.2.2.1, .str z.2.2.2.2.2.2.2.2.2.2]])) (fun z => ((.exit 0), [.lst tTxn z.1, .bp 0 0, .bool z.2.1, .int .i64 z.2.2.1], [.box [.int .i64 z.2.2.2.1, .int .i64 z.2.2.2.2.1, .int .i64 z.2.2.2.2.2.1, .int .i64 z.2.2.2.2.2.2.1, .lst tRange z.2.2.2.2.2.2.2.1, .lst tWrite z.2.2.2.2.2.2.2.2.1, .bool z.2.2.2.2.2.2.2.2.2.1, .str z.2.2.2.2.2.2.2.2.2.2]])))

theorem spec_OutOf_bx0 (x : q10T) : exec G56 ⟨0, 26, spec_OutOf_loops⟩ (loopBody Try.f37 0) (bodyK ⟨0, 26, spec_OutOf_loops⟩ [1, 2, 4, 5] []) (setEs (deads 26) [1, 2, 4, 5] (spec_OutOf_v0 x)) (spec_OutOf_s0 x) = spec_OutOf_b0 x (Sum.elim (fun y => some ⟨.norm, spec_OutOf_v0 y, spec_OutOf_s0 y⟩) fun z => some ⟨(spec_OutOf_e0 z).1, (spec_OutOf_e0 z).2.1, (spec_OutOf_e0 z).2.2⟩) := by
  kernel_rfl

theorem spec_OutOf_lo0 : ∀ sp, (spec_OutOf_loops 0) = some sp → LoopOk G56 ⟨0, 26, spec_OutOf_loops⟩ sp (loopBody Try.f37 0) := by
  intro sp hsp vals st k r h
  cases hsp
  dsimp only at h
  rcases onPats_inv2 h with ⟨p, q, rfl, rfl, h⟩ | h
  · exact loop_runs2 spec_OutOf_bp0 spec_OutOf_v0 spec_OutOf_s0 spec_OutOf_e0 (fun z => by rcases z with z | z <;> (intro h; cases h)) spec_OutOf_bx0 Fuel (p.1, p.2.2.1, p.2.2.2.1, q.1.1, q.1.2.1, q.1.2.2.1, q.1.2.2.2.1, q.1.2.2.2.2.1, q.1.2.2.2.2.2.1, q.1.2.2.2.2.2.2.1, q.1.2.2.2.2.2.2.2.1) _ k r (fun z => by rcases z with z | z <;> rfl) h
  cases h

theorem spec_OutOf_y (a0 : Int) (a1 : Int) (a2 : Int) (a3 : Int) (a4 : (List dRange)) (a5 : (List dWrite)) (a6 : Bool) (a7 : ByteArray) (a8 : (List dTxn)) : execFn G56 spec_OutOf_loops Try.f37 [.agg [.int .i64 a0, .int .i64 a1, .int .i64 a2, .int .i64 a3, .lst tRange a4, .lst tWrite a5, .bool a6, .str a7], .lst tTxn a8] [] = spec_OutOf_k (a0, (a1, (a2, (a3, (a4, (a5, (a6, a7))))))) a8 (fun (y : Bool) => some ⟨.ret, [.bool y], []⟩) := by rw [spec_OutOf_e]; kernel_rfl

theorem spec_OutOf_l : LoopsOk G56 ⟨0, 26, spec_OutOf_loops⟩ (Try.f37.body.getD .skip) :=
  loopsOk_of (ids := [0]) (by kernel_rfl) (by kernel_rfl) ⟨spec_OutOf_lo0, trivial⟩

theorem spec_OutOf_c : Contract Try.prog 37 spec_OutOf_g := by
  refine told G56_ok follows Try.func37 (c := Try.f37.body.getD .skip) (by kernel_rfl) ?_
  intro args s k r hk
  unfold spec_OutOf_g at hk
  rcases onPats_inv hk with ⟨p, q, rfl, rfl⟩ | hk
  · exact ⟨spec_OutOf_loops, spec_OutOf_q p.1.1 p.1.2.1 p.1.2.2.1 p.1.2.2.2.1 p.1.2.2.2.2.1 p.1.2.2.2.2.2.1 p.1.2.2.2.2.2.2.1 p.1.2.2.2.2.2.2.2.1 p.2.1, spec_OutOf_y p.1.1 p.1.2.1 p.1.2.2.1 p.1.2.2.2.1 p.1.2.2.2.2.1 p.1.2.2.2.2.2.1 p.1.2.2.2.2.2.2.1 p.1.2.2.2.2.2.2.2.1 p.2.1, spec_OutOf_l⟩
  cases hk

def G57 : Glob := G56.add 37 spec_OutOf_g

theorem G57_ok : GlobOk Try.prog G57 := G56_ok.add ⟨Try.f37, Try.func37, by kernel_rfl, by kernel_rfl⟩ spec_OutOf_c



def spec_Danger_loops : Nat → Option LoopSpec
  | 6000003 => some ⟨[1, 2, 4, 5, 6, 7], [], fun vals st k => onPats [.lst tTxn, .bp 0 0, .bool, .int .i64, .bp 1 0, .int .i64] [.box [.int .i64, .int .i64, .int .i64, .int .i64, .lst tRange, .lst tWrite, .bool, .str], .box [.int .i64, .int .i64, .int .i64, .int .i64, .lst tRange, .lst tWrite, .bool, .str]] vals st (fun p q => spec_Danger_j6000003 (p.1, p.2.2.1, p.2.2.2.1, p.2.2.2.2.2.1, q.1.1, q.1.2.1, q.1.2.2.1, q.1.2.2.2.1, q.1.2.2.2.2.1, q.1.2.2.2.2.2.1, q.1.2.2.2.2.2.2.1, q.1.2.2.2.2.2.2.2.1, q.2.1.1, q.2.1.2.1, q.2.1.2.2.1, q.2.1.2.2.2.1, q.2.1.2.2.2.2.1, q.2.1.2.2.2.2.2.1, q.2.1.2.2.2.2.2.2.1, q.2.1.2.2.2.2.2.2.2.1) (Sum.elim (fun z => k .ret [.lst tTxn z.1, .bp 0 0, .bool z.2.1, .int .i64 z.2.2.1, .bp 1 0, .int .i64 z.2.2.2.1] [.box [.int .i64 z.2.2.2.2.1, .int .i64 z.2.2.2.2.2.1, .int .i64 z.2.2.2.2.2.2.1, .int .i64 z.2.2.2.2.2.2.2.1, .lst tRange z.2.2.2.2.2.2.2.2.1, .lst tWrite z.2.2.2.2.2.2.2.2.2.1, .bool z.2.2.2.2.2.2.2.2.2.2.1, .str z.2.2.2.2.2.2.2.2.2.2.2.1], .box [.int .i64 z.2.2.2.2.2.2.2.2.2.2.2.2.1, .int .i64 z.2.2.2.2.2.2.2.2.2.2.2.2.2.1, .int .i64 z.2.2.2.2.2.2.2.2.2.2.2.2.2.2.1, .int .i64 z.2.2.2.2.2.2.2.2.2.2.2.2.2.2.2.1, .lst tRange z.2.2.2.2.2.2.2.2.2.2.2.2.2.2.2.2.1, .lst tWrite z.2.2.2.2.2.2.2.2.2.2.2.2.2.2.2.2.2.1, .bool z.2.2.2.2.2.2.2.2.2.2.2.2.2.2.2.2.2.2.1, .str z.2.2.2.2.2.2.2.2.2.2.2.2.2.2.2.2.2.2.2]]) (fun z => k .norm [.lst tTxn z.1, .bp 0 0, .bool z.2.1, .int .i64 z.2.2.1, .bp 1 0, .int .i64 z.2.2.2.1] [.box [.int .i64 z.2.2.2.2.1, .int .i64 z.2.2.2.2.2.1, .int .i64 z.2.2.2.2.2.2.1, .int .i64 z.2.2.2.2.2.2.2.1, .lst tRange z.2.2.2.2.2.2.2.2.1, .lst tWrite z.2.2.2.2.2.2.2.2.2.1, .bool z.2.2.2.2.2.2.2.2.2.2.1, .str z.2.2.2.2.2.2.2.2.2.2.2.1], .box [.int .i64 z.2.2.2.2.2.2.2.2.2.2.2.2.1, .int .i64 z.2.2.2.2.2.2.2.2.2.2.2.2.2.1, .int .i64 z.2.2.2.2.2.2.2.2.2.2.2.2.2.2.1, .int .i64 z.2.2.2.2.2.2.2.2.2.2.2.2.2.2.2.1, .lst tRange z.2.2.2.2.2.2.2.2.2.2.2.2.2.2.2.2.1, .lst tWrite z.2.2.2.2.2.2.2.2.2.2.2.2.2.2.2.2.2.1, .bool z.2.2.2.2.2.2.2.2.2.2.2.2.2.2.2.2.2.2.1, .str z.2.2.2.2.2.2.2.2.2.2.2.2.2.2.2.2.2.2.2]])))
      (none)⟩
  | 2 => some ⟨[1, 2, 4, 5, 6, 7], [], fun vals st k => onPats [.lst tTxn, .bp 0 0, .bool, .int .i64, .bp 1 0, .int .i64] [.box [.int .i64, .int .i64, .int .i64, .int .i64, .lst tRange, .lst tWrite, .bool, .str], .box [.int .i64, .int .i64, .int .i64, .int .i64, .lst tRange, .lst tWrite, .bool, .str]] vals st (fun p q => loopK spec_Danger_b2 Fuel (p.1, p.2.2.1, p.2.2.2.1, p.2.2.2.2.2.1, q.1.1, q.1.2.1, q.1.2.2.1, q.1.2.2.2.1, q.1.2.2.2.2.1, q.1.2.2.2.2.2.1, q.1.2.2.2.2.2.2.1, q.1.2.2.2.2.2.2.2.1, q.2.1.1, q.2.1.2.1, q.2.1.2.2.1, q.2.1.2.2.2.1, q.2.1.2.2.2.2.1, q.2.1.2.2.2.2.2.1, q.2.1.2.2.2.2.2.2.1, q.2.1.2.2.2.2.2.2.2.1) (Sum.elim (fun z => k (.exit 2) [.lst tTxn z.1, .bp 0 0, .bool z.2.1, .int .i64 z.2.2.1, .bp 1 0, .int .i64 z.2.2.2.1] [.box [.int .i64 z.2.2.2.2.1, .int .i64 z.2.2.2.2.2.1, .int .i64 z.2.2.2.2.2.2.1, .int .i64 z.2.2.2.2.2.2.2.1, .lst tRange z.2.2.2.2.2.2.2.2.1, .lst tWrite z.2.2.2.2.2.2.2.2.2.1, .bool z.2.2.2.2.2.2.2.2.2.2.1, .str z.2.2.2.2.2.2.2.2.2.2.2.1], .box [.int .i64 z.2.2.2.2.2.2.2.2.2.2.2.2.1, .int .i64 z.2.2.2.2.2.2.2.2.2.2.2.2.2.1, .int .i64 z.2.2.2.2.2.2.2.2.2.2.2.2.2.2.1, .int .i64 z.2.2.2.2.2.2.2.2.2.2.2.2.2.2.2.1, .lst tRange z.2.2.2.2.2.2.2.2.2.2.2.2.2.2.2.2.1, .lst tWrite z.2.2.2.2.2.2.2.2.2.2.2.2.2.2.2.2.2.1, .bool z.2.2.2.2.2.2.2.2.2.2.2.2.2.2.2.2.2.2.1, .str z.2.2.2.2.2.2.2.2.2.2.2.2.2.2.2.2.2.2.2]]) (fun z => k .ret [.lst tTxn z.1, .bp 0 0, .bool z.2.1, .int .i64 z.2.2.1, .bp 1 0, .int .i64 z.2.2.2.1] [.box [.int .i64 z.2.2.2.2.1, .int .i64 z.2.2.2.2.2.1, .int .i64 z.2.2.2.2.2.2.1, .int .i64 z.2.2.2.2.2.2.2.1, .lst tRange z.2.2.2.2.2.2.2.2.1, .lst tWrite z.2.2.2.2.2.2.2.2.2.1, .bool z.2.2.2.2.2.2.2.2.2.2.1, .str z.2.2.2.2.2.2.2.2.2.2.2.1], .box [.int .i64 z.2.2.2.2.2.2.2.2.2.2.2.2.1, .int .i64 z.2.2.2.2.2.2.2.2.2.2.2.2.2.1, .int .i64 z.2.2.2.2.2.2.2.2.2.2.2.2.2.2.1, .int .i64 z.2.2.2.2.2.2.2.2.2.2.2.2.2.2.2.1, .lst tRange z.2.2.2.2.2.2.2.2.2.2.2.2.2.2.2.2.1, .lst tWrite z.2.2.2.2.2.2.2.2.2.2.2.2.2.2.2.2.2.1, .bool z.2.2.2.2.2.2.2.2.2.2.2.2.2.2.2.2.2.2.1, .str z.2.2.2.2.2.2.2.2.2.2.2.2.2.2.2.2.2.2.2]])))
      (none)⟩
  | 5000011 => some ⟨[1, 2, 4, 5, 6], [], fun vals st k => onPats [.lst tTxn, .bp 0 0, .bool, .int .i64, .bp 1 0] [.box [.int .i64, .int .i64, .int .i64, .int .i64, .lst tRange, .lst tWrite, .bool, .str], .box [.int .i64, .int .i64, .int .i64, .int .i64, .lst tRange, .lst tWrite, .bool, .str]] vals st (fun p q => spec_Danger_j5000011 (p.1, p.2.2.1, p.2.2.2.1, q.1.1, q.1.2.1, q.1.2.2.1, q.1.2.2.2.1, q.1.2.2.2.2.1, q.1.2.2.2.2.2.1, q.1.2.2.2.2.2.2.1, q.1.2.2.2.2.2.2.2.1, q.2.1.1, q.2.1.2.1, q.2.1.2.2.1, q.2.1.2.2.2.1, q.2.1.2.2.2.2.1, q.2.1.2.2.2.2.2.1, q.2.1.2.2.2.2.2.2.1, q.2.1.2.2.2.2.2.2.2.1) (Sum.elim (fun z => k .norm [.lst tTxn z.1, .bp 0 0, .bool z.2.1, .int .i64 z.2.2.1, .bp 1 0] [.box [.int .i64 z.2.2.2.1, .int .i64 z.2.2.2.2.1, .int .i64 z.2.2.2.2.2.1, .int .i64 z.2.2.2.2.2.2.1, .lst tRange z.2.2.2.2.2.2.2.1, .lst tWrite z.2.2.2.2.2.2.2.2.1, .bool z.2.2.2.2.2.2.2.2.2.1, .str z.2.2.2.2.2.2.2.2.2.2.1], .box [.int .i64 z.2.2.2.2.2.2.2.2.2.2.2.1, .int .i64 z.2.2.2.2.2.2.2.2.2.2.2.2.1, .int .i64 z.2.2.2.2.2.2.2.2.2.2.2.2.2.1, .int .i64 z.2.2.2.2.2.2.2.2.2.2.2.2.2.2.1, .lst tRange z.2.2.2.2.2.2.2.2.2.2.2.2.2.2.2.1, .lst tWrite z.2.2.2.2.2.2.2.2.2.2.2.2.2.2.2.2.1, .bool z.2.2.2.2.2.2.2.2.2.2.2.2.2.2.2.2.2.1, .str z.2.2.2.2.2.2.2.2.2.2.2.2.2.2.2.2.2.2]]) (fun z => k .ret [.lst tTxn z.1, .bp 0 0, .bool z.2.1, .int .i64 z.2.2.1, .bp 1 0] [.box [.int .i64 z.2.2.2.1, .int .i64 z.2.2.2.2.1, .int .i64 z.2.2.2.2.2.1, .int .i64 z.2.2.2.2.2.2.1, .lst tRange z.2.2.2.2.2.2.2.1, .lst tWrite z.2.2.2.2.2.2.2.2.1, .bool z.2.2.2.2.2.2.2.2.2.1, .str z.2.2.2.2.2.2.2.2.2.2.1], .box [.int .i64 z.2.2.2.2.2.2.2.2.2.2.2.1, .int .i64 z.2.2.2.2.2.2.2.2.2.2.2.2.1, .int .i64 z.2.2.2.2.2.2.2.2.2.2.2.2.2.1, .int .i64 z.2.2.2.2.2.2.2.2.2.2.2.2.2.2.1, .lst tRange z.2.2.2.2.2.2.2.2.2.2.2.2.2.2.2.1, .lst tWrite z.2.2.2.2.2.2.2.2.2.2.2.2.2.2.2.2.1, .bool z.2.2.2.2.2.2.2.2.2.2.2.2.2.2.2.2.2.1, .str z.2.2.2.2.2.2.2.2.2.2.2.2.2.2.2.2.2.2]])))
      (none)⟩
  | 5000009 => some ⟨[1, 2, 4, 5, 6], [], fun vals st k => onPats [.lst tTxn, .bp 0 0, .bool, .int .i64, .bp 1 0] [.box [.int .i64, .int .i64, .int .i64, .int .i64, .lst tRange, .lst tWrite, .bool, .str], .box [.int .i64, .int .i64, .int .i64, .int .i64, .lst tRange, .lst tWrite, .bool, .str]] vals st (fun p q => spec_Danger_j5000009 (p.1, p.2.2.1, p.2.2.2.1, q.1.1, q.1.2.1, q.1.2.2.1, q.1.2.2.2.1, q.1.2.2.2.2.1, q.1.2.2.2.2.2.1, q.1.2.2.2.2.2.2.1, q.1.2.2.2.2.2.2.2.1, q.2.1.1, q.2.1.2.1, q.2.1.2.2.1, q.2.1.2.2.2.1, q.2.1.2.2.2.2.1, q.2.1.2.2.2.2.2.1, q.2.1.2.2.2.2.2.2.1, q.2.1.2.2.2.2.2.2.2.1) (Sum.elim (fun z => k .ret [.lst tTxn z.1, .bp 0 0, .bool z.2.1, .int .i64 z.2.2.1, .bp 1 0] [.box [.int .i64 z.2.2.2.1, .int .i64 z.2.2.2.2.1, .int .i64 z.2.2.2.2.2.1, .int .i64 z.2.2.2.2.2.2.1, .lst tRange z.2.2.2.2.2.2.2.1, .lst tWrite z.2.2.2.2.2.2.2.2.1, .bool z.2.2.2.2.2.2.2.2.2.1, .str z.2.2.2.2.2.2.2.2.2.2.1], .box [.int .i64 z.2.2.2.2.2.2.2.2.2.2.2.1, .int .i64 z.2.2.2.2.2.2.2.2.2.2.2.2.1, .int .i64 z.2.2.2.2.2.2.2.2.2.2.2.2.2.1, .int .i64 z.2.2.2.2.2.2.2.2.2.2.2.2.2.2.1, .lst tRange z.2.2.2.2.2.2.2.2.2.2.2.2.2.2.2.1, .lst tWrite z.2.2.2.2.2.2.2.2.2.2.2.2.2.2.2.2.1, .bool z.2.2.2.2.2.2.2.2.2.2.2.2.2.2.2.2.2.1, .str z.2.2.2.2.2.2.2.2.2.2.2.2.2.2.2.2.2.2]]) (fun z => k .norm [.lst tTxn z.1, .bp 0 0, .bool z.2.1, .int .i64 z.2.2.1, .bp 1 0] [.box [.int .i64 z.2.2.2.1, .int .i64 z.2.2.2.2.1, .int .i64 z.2.2.2.2.2.1, .int .i64 z.2.2.2.2.2.2.1, .lst tRange z.2.2.2.2.2.2.2.1, .lst tWrite z.2.2.2.2.2.2.2.2.1, .bool z.2.2.2.2.2.2.2.2.2.1, .str z.2.2.2.2.2.2.2.2.2.2.1], .box [.int .i64 z.2.2.2.2.2.2.2.2.2.2.2.1, .int .i64 z.2.2.2.2.2.2.2.2.2.2.2.2.1, .int .i64 z.2.2.2.2.2.2.2.2.2.2.2.2.2.1, .int .i64 z.2.2.2.2.2.2.2.2.2.2.2.2.2.2.1, .lst tRange z.2.2.2.2.2.2.2.2.2.2.2.2.2.2.2.1, .lst tWrite z.2.2.2.2.2.2.2.2.2.2.2.2.2.2.2.2.1, .bool z.2.2.2.2.2.2.2.2.2.2.2.2.2.2.2.2.2.1, .str z.2.2.2.2.2.2.2.2.2.2.2.2.2.2.2.2.2.2]])))
      (none)⟩
  | 0 => some ⟨[1, 2, 4, 5], [], fun vals st k => onPats [.lst tTxn, .bp 0 0, .bool, .int .i64] [.box [.int .i64, .int .i64, .int .i64, .int .i64, .lst tRange, .lst tWrite, .bool, .str]] vals st (fun p q => loopK spec_Danger_b0 Fuel (p.1, p.2.2.1, p.2.2.2.1, q.1.1, q.1.2.1, q.1.2.2.1, q.1.2.2.2.1, q.1.2.2.2.2.1, q.1.2.2.2.2.2.1, q.1.2.2.2.2.2.2.1, q.1.2.2.2.2.2.2.2.1) (Sum.elim (fun z => k .ret [.lst tTxn z.1, .bp 0 0, .bool z.2.1, .int .i64 z.2.2.1] [.box [.int .i64 z.2.2.2.1, .int .i64 z.2.2.2.2.1, .int .i64 z.2.2.2.2.2.1, .int .i64 z.2.2.2.2.2.2.1, .lst tRange z.2.2.2.2.2.2.2.1, .lst tWrite z.2.2.2.2.2.2.2.2.1, .bool z.2.2.2.2.2.2.2.2.2.1, .str z.2.2.2.2.2.2.2.2.2.2]]) (fun z => k (.exit 0) [.lst tTxn z.1, .bp 0 0, .bool z.2.1, .int .i64 z.2.2.1] [.box [.int .i64 z.2.2.2.1, .int .i64 z.2.2.2.2.1, .int .i64 z.2.2.2.2.2.1, .int .i64 z.2.2.2.2.2.2.1, .lst tRange z.2.2.2.2.2.2.2.1, .lst tWrite z.2.2.2.2.2.2.2.2.1, .bool z.2.2.2.2.2.2.2.2.2.1, .str z.2.2.2.2.2.2.2.2.2.2]])))
      (none)⟩
  | 5000003 => some ⟨[1, 2, 4], [], fun vals st k => onPats [.lst tTxn, .bp 0 0, .bool] [.box [.int .i64, .int .i64, .int .i64, .int .i64, .lst tRange, .lst tWrite, .bool, .str]] vals st (fun p q => spec_Danger_j5000003 (p.1, p.2.2.1, q.1.1, q.1.2.1, q.1.2.2.1, q.1.2.2.2.1, q.1.2.2.2.2.1, q.1.2.2.2.2.2.1, q.1.2.2.2.2.2.2.1, q.1.2.2.2.2.2.2.2.1) (fun z => k .ret [.lst tTxn z.1, .bp 0 0, .bool z.2.1] [.box [.int .i64 z.2.2.1, .int .i64 z.2.2.2.1, .int .i64 z.2.2.2.2.1, .int .i64 z.2.2.2.2.2.1, .lst tRange z.2.2.2.2.2.2.1, .lst tWrite z.2.2.2.2.2.2.2.1, .bool z.2.2.2.2.2.2.2.2.1, .str z.2.2.2.2.2.2.2.2.2]]))
      (none)⟩
  | _ => none

def spec_Danger_jv6000003 : q11T → List AV := (fun x => [.lst tTxn x.1, .bp 0 0, .bool x.2.1, .int .i64 x.2.2.1, .bp 1 0, .int .i64 x.2.2.2.1])
def spec_Danger_js6000003 : q11T → St := (fun x => [.box [.int .i64 x.2.2.2.2.1, .int .i64 x.2.2.2.2.2.1, .int .i64 x.2.2.2.2.2.2.1, .int .i64 x.2.2.2.2.2.2.2.1, .lst tRange x.2.2.2.2.2.2.2.2.1, .lst tWrite x.2.2.2.2.2.2.2.2.2.1, .bool x.2.2.2.2.2.2.2.2.2.2.1, .str x.2.2.2.2.2.2.2.2.2.2.2.1], .box [.int .i64 x.2.2.2.2.2.2.2.2.2.2.2.2.1, .int .i64 x.2.2.2.2.2.2.2.2.2.2.2.2.2.1, .int .i64 x.2.2.2.2.2.2.2.2.2.2.2.2.2.2.1, .int .i64 x.2.2.2.2.2.2.2.2.2.2.2.2.2.2.2.1, .lst tRange x.2.2.2.2.2.2.2.2.2.2.2.2.2.2.2.2.1, .lst tWrite x.2.2.2.2.2.2.2.2.2.2.2.2.2.2.2.2.2.1, .bool x.2.2.2.2.2.2.2.2.2.2.2.2.2.2.2.2.2.2.1, .str x.2.2.2.2.2.2.2.2.2.2.2.2.2.2.2.2.2.2.2]])
def spec_Danger_je6000003 : (q11T ⊕ q11T) → Out × List AV × St := (Sum.elim (fun z => (.ret, [.lst tTxn z.1, .bp 0 0, .bool z.2.1, .int .i64 z.2.2.1, .bp 1 0, .int .i64 z.2.2.2.1], [.box [.int .i64 z.2.2.2.2.1, .int .i64 z.2.2.2.2.2.1, .int .i64 z.2.2.2.2.2.2.1, .int .i64 z.2.2.2.2.2.2.2.1, .lst tRange z.2.2.2.2.2.2.2.2.1, .lst tWrite z.2.2.2.2.2.2.2.2.2.1, .bool z.2.2.2.2.2.2.2.2.2.2.1, .str z.2.2.2.2.2.2.2.2.2.2.2.1], .box [.int .i64 z.2.2.2.2.2.2.2.2.2.2.2.2.1, .int .i64 z.2.2.2.2.2.2.2.2.2.2.2.2.2.1, .int .i64 z.2.2.2.2.2.2.2.2.2.2.2.2.2.2.1, .int .i64 z.2.2.2.2.2.2.2.2.2.2.2.2.2.2.2.1, .lst tRange z.2.2.2.2.2.2.2.2.2.2.2.2.2.2.2.2.1, .lst tWrite z.2.2.2.2.2.2.2.2.2.2.2.2.2.2.2.2.2.1, .bool z.2.2.2.2.2.2.2.2.2.2.2.2.2.2.2.2.2.2.1, .str z.2.2.2.2.2.2.2.2.2.2.2.2.2.2.2.2.2.2.2]])) (fun z => (.norm, [.lst tTxn z.1, .bp 0 0, .bool z.2.1, .int .i64 z.2.2.1, .bp 1 0, .int .i64 z.2.2.2.1], [.box [.int .i64 z.2.2.2.2.1, .int .i64 z.2.2.2.2.2.1, .int .i64 z.2.2.2.2.2.2.1, .int .i64 z.2.2.2.2.2.2.2.1, .lst tRange z.2.2.2.2.2.2.2.2.1, .lst tWrite z.2.2.2.2.2.2.2.2.2.1, .bool z.2.2.2.2.2.2.2.2.2.2.1, .str z.2.2.2.2.2.2.2.2.2.2.2.1], .box [.int .i64 z.2.2.2.2.2.2.2.2.2.2.2.2.1, .int .i64 z.2.2.2.2.2.2.2.2.2.2.2.2.2.1, .int .i64 z.2.2.2.2.2.2.2.2.2.2.2.2.2.2.1, .int .i64 z.2.2.2.2.2.2.2.2.2.2.2.2.2.2.2.1, .lst tRange z.2.2.2.2.2.2.2.2.2.2.2.2.2.2.2.2.1, .lst tWrite z.2.2.2.2.2.2.2.2.2.2.2.2.2.2.2.2.2.1, .bool z.2.2.2.2.2.2.2.2.2.2.2.2.2.2.2.2.2.2.1, .str z.2.2.2.2.2.2.2.2.2.2.2.2.2.2.2.2.2.2.2]])))

theorem spec_Danger_jx6000003 (x : q11T) : exec G57 ⟨0, 92, spec_Danger_loops⟩ (loopBody Try.f31 6000003) (bodyK ⟨0, 92, spec_Danger_loops⟩ [1, 2, 4, 5, 6, 7] []) (setEs (deads 92) [1, 2, 4, 5, 6, 7] (spec_Danger_jv6000003 x)) (spec_Danger_js6000003 x) = spec_Danger_j6000003 x (fun z => some ⟨(spec_Danger_je6000003 z).1, (spec_Danger_je6000003 z).2.1, (spec_Danger_je6000003 z).2.2⟩) := by
  kernel_rfl

theorem spec_Danger_lo6000003 : ∀ sp, (spec_Danger_loops 6000003) = some sp → CutOk G57 ⟨0, 92, spec_Danger_loops⟩ sp (loopBody Try.f31 6000003) := by
  intro sp hsp vals st k r h
  cases hsp
  dsimp only at h
  rcases onPats_inv2 h with ⟨p, q, rfl, rfl, h⟩ | h
  · exact cut_runs spec_Danger_jp6000003 spec_Danger_jv6000003 spec_Danger_js6000003 spec_Danger_je6000003 spec_Danger_jx6000003 (p.1, p.2.2.1, p.2.2.2.1, p.2.2.2.2.2.1, q.1.1, q.1.2.1, q.1.2.2.1, q.1.2.2.2.1, q.1.2.2.2.2.1, q.1.2.2.2.2.2.1, q.1.2.2.2.2.2.2.1, q.1.2.2.2.2.2.2.2.1, q.2.1.1, q.2.1.2.1, q.2.1.2.2.1, q.2.1.2.2.2.1, q.2.1.2.2.2.2.1, q.2.1.2.2.2.2.2.1, q.2.1.2.2.2.2.2.2.1, q.2.1.2.2.2.2.2.2.2.1) _ k r (fun z => by rcases z with z | z <;> rfl) h
  cases h

def spec_Danger_v2 : q11T → List AV := (fun x => [.lst tTxn x.1, .bp 0 0, .bool x.2.1, .int .i64 x.2.2.1, .bp 1 0, .int .i64 x.2.2.2.1])
def spec_Danger_s2 : q11T → St := (fun x => [.box [.int .i64 x.2.2.2.2.1, .int .i64 x.2.2.2.2.2.1, .int .i64 x.2.2.2.2.2.2.1, .int .i64 x.2.2.2.2.2.2.2.1, .lst tRange x.2.2.2.2.2.2.2.2.1, .lst tWrite x.2.2.2.2.2.2.2.2.2.1, .bool x.2.2.2.2.2.2.2.2.2.2.1, .str x.2.2.2.2.2.2.2.2.2.2.2.1], .box [.int .i64 x.2.2.2.2.2.2.2.2.2.2.2.2.1, .int .i64 x.2.2.2.2.2.2.2.2.2.2.2.2.2.1, .int .i64 x.2.2.2.2.2.2.2.2.2.2.2.2.2.2.1, .int .i64 x.2.2.2.2.2.2.2.2.2.2.2.2.2.2.2.1, .lst tRange x.2.2.2.2.2.2.2.2.2.2.2.2.2.2.2.2.1, .lst tWrite x.2.2.2.2.2.2.2.2.2.2.2.2.2.2.2.2.2.1, .bool x.2.2.2.2.2.2.2.2.2.2.2.2.2.2.2.2.2.2.1, .str x.2.2.2.2.2.2.2.2.2.2.2.2.2.2.2.2.2.2.2]])
def spec_Danger_e2 : (q11T ⊕ q11T) → Out × List AV × St := (Sum.elim (fun z => ((.exit 2), [.lst tTxn z.1, .bp 0 0, .bool z.2.1, .int .i64 z.2.2.1, .bp 1 0, .int .i64 z.2.2.2.1], [.box [.int .i64 z.2.2.2.2.1, .int .i64 z.2.2.2.2.2.1, .int .i64 z.2.2.2.2.2.2.1, .int .i64 z.2.2.2.2.2.2.2.1, .lst tRange z.2.2.2.2.2.2.2.2.1, .lst tWrite z.2.2.2.2.2.2.2.2.2.1, .bool z.2.2.2.2.2.2.2.2.2.2.1, .str z.2.2.2.2.2.2.2.2.2.2.2.1], .box [.int .i64 z.2.2.2.2.2.2.2.2.2.2.2.2.1, .int .i64 z.2.2.2.2.2.2.2.2.2.2.2.2.2.1, .int .i64 z.2.2.2.2.2.2.2.2.2.2.2.2.2.2.1, .int .i64 z.2.2.2.2.2.2.2.2.2.2.2.2.2.2.2.1, .lst tRange z.2.2.2.2.2.2.2.2.2.2.2.2.2.2.2.2.1, .lst tWrite z.2.2.2.2.2.2.2.2.2.2.2.2.2.2.2.2.2.1, .bool z.2.2.2.2.2.2.2.2.2.2.2.2.2.2.2.2.2.2.1, .str z.2.2.2.2.2.2.2.2.2.2.2.2.2.2.2.2.2.2.2]])) (fun z => (.ret, [.lst tTxn z.1, .bp 0 0, .bool z.2.1, .int .i64 z.2.2.1, .bp 1 0, .int .i64 z.2.2.2.1], [.box [.int .i64 z.2.2.2.2.1, .int .i64 z.2.2.2.2.2.1, .int .i64 z.2.2.2.2.2.2.1, .int .i64 z.2.2.2.2.2.2.2.1, .lst tRange z.2.2.2.2.2.2.2.2.1, .lst tWrite z.2.2.2.2.2.2.2.2.2.1, .bool z.2.2.2.2.2.2.2.2.2.2.1, .str z.2.2.2.2.2.2.2.2.2.2.2.1], .box [.int .i64 z.2.2.2.2.2.2.2.2.2.2.2.2.1, .int .i64 z.2.2.2.2.2.2.2.2.2.2.2.2.2.1, .int .i64 z.2.2.2.2.2.2.2.2.2.2.2.2.2.2.1, .int .i64 z.2.2.2.2.2.2.2.2.2.2.2.2.2.2.2.1, .lst tRange z.2.2.2.2.2.2.2.2.2.2.2.2.2.2.2.2.1, .lst tWrite z.2.2.2.2.2.2.2.2.2.2.2.2.2.2.2.2.2.1, .bool z.2.2.2.2.2.2.2.2.2.2.2.2.2.2.2.2.2.2.1, .str z.2.2.2.2.2.2.2.2.2.2.2.2.2.2.2.2.2.2.2]])))

theorem spec_Danger_bx2 (x : q11T) : exec G57 ⟨0, 92, spec_Danger_loops⟩ (loopBody Try.f31 2) (bodyK ⟨0, 92, spec_Danger_loops⟩ [1, 2, 4, 5, 6, 7] []) (setEs (deads 92) [1, 2, 4, 5, 6, 7] (spec_Danger_v2 x)) (spec_Danger_s2 x) = spec_Danger_b2 x (Sum.elim (fun y => some ⟨.norm, spec_Danger_v2 y, spec_Danger_s2 y⟩) fun z => some ⟨(spec_Danger_e2 z).1, (spec_Danger_e2 z).2.1, (spec_Danger_e2 z).2.2⟩) := by
  kernel_rfl

theorem spec_Danger_lo2 : ∀ sp, (spec_Danger_loops 2) = some sp → LoopOk G57 ⟨0, 92, spec_Danger_loops⟩ sp (loopBody Try.f31 2) := by
  intro sp hsp vals st k r h
  cases hsp
  dsimp only at h
  rcases onPats_inv2 h with ⟨p, q, rfl, rfl, h⟩ | h
  · exact loop_runs2 spec_Danger_bp2 spec_Danger_v2 spec_Danger_s2 spec_Danger_e2 (fun z => by rcases z with z | z <;> (intro h; cases h)) spec_Danger_bx2 Fuel (p.1, p.2.2.1, p.2.2.2.1, p.2.2.2.2.2.1, q.1.1, q.1.2.1, q.1.2.2.1, q.1.2.2.2.1, q.1.2.2.2.2.1, q.1.2.2.2.2.2.1, q.1.2.2.2.2.2.2.1, q.1.2.2.2.2.2.2.2.1, q.2.1.1, q.2.1.2.1, q.2.1.2.2.1, q.2.1.2.2.2.1, q.2.1.2.2.2.2.1, q.2.1.2.2.2.2.2.1, q.2.1.2.2.2.2.2.2.1, q.2.1.2.2.2.2.2.2.2.1) _ k r (fun z => by rcases z with z | z <;> rfl) h
  cases h

def spec_Danger_jv5000011 : q9T → List AV := (fun x => [.lst tTxn x.1, .bp 0 0, .bool x.2.1, .int .i64 x.2.2.1, .bp 1 0])
def spec_Danger_js5000011 : q9T → St := (fun x => [.box [.int .i64 x.2.2.2.1, .int .i64 x.2.2.2.2.1, .int .i64 x.2.2.2.2.2.1, .int .i64 x.2.2.2.2.2.2.1, .lst tRange x.2.2.2.2.2.2.2.1, .lst tWrite x.2.2.2.2.2.2.2.2.1, .bool x.2.2.2.2.2.2.2.2.2.1, .str x.2.2.2.2.2.2.2.2.2.2.1], .box [.int .i64 x.2.2.2.2.2.2.2.2.2.2.2.1, .int .i64 x.2.2.2.2.2.2.2.2.2.2.2.2.1, .int .i64 x.2.2.2.2.2.2.2.2.2.2.2.2.2.1, .int .i64 x.2.2.2.2.2.2.2.2.2.2.2.2.2.2.1, .lst tRange x.2.2.2.2.2.2.2.2.2.2.2.2.2.2.2.1, .lst tWrite x.2.2.2.2.2.2.2.2.2.2.2.2.2.2.2.2.1, .bool x.2.2.2.2.2.2.2.2.2.2.2.2.2.2.2.2.2.1, .str x.2.2.2.2.2.2.2.2.2.2.2.2.2.2.2.2.2.2]])
def spec_Danger_je5000011 : (q9T ⊕ q9T) → Out × List AV × St := (Sum.elim (fun z => (.norm, [.lst tTxn z.1, .bp 0 0, .bool z.2.1, .int .i64 z.2.2.1, .bp 1 0], [.box [.int .i64 z.2.2.2.1, .int .i64 z.2.2.2.2.1, .int .i64 z.2.2.2.2.2.1, .int .i64 z.2.2.2.2.2.2.1, .lst tRange z.2.2.2.2.2.2.2.1, .lst tWrite z.2.2.2.2.2.2.2.2.1, .bool z.2.2.2.2.2.2.2.2.2.1, .str z.2.2.2.2.2.2.2.2.2.2.1], .box [.int .i64 z.2.2.2.2.2.2.2.2.2.2.2.1, .int .i64 z.2.2.2.2.2.2.2.2.2.2.2.2.1, .int .i64 z.2.2.2.2.2.2.2.2.2.2.2.2.2.1, .int .i64 z.2.2.2.2.2.2.2.2.2.2.2.2.2.2.1, .lst tRange z.2.2.2.2.2.2.2.2.2.2.2.2.2.2.2.1, .lst tWrite z.2.2.2.2.2.2.2.2.2.2.2.2.2.2.2.2.1, .bool z.2.2.2.2.2.2.2.2.2.2.2.2.2.2.2.2.2.1, .str z.2.2.2.2.2.2.2.2.2.2.2.2.2.2.2.2.2.2]])) (fun z => (.ret, [.lst tTxn z.1, .bp 0 0, .bool z.2.1, .int .i64 z.2.2.1, .bp 1 0], [.box [.int .i64 z.2.2.2.1, .int .i64 z.2.2.2.2.1, .int .i64 z.2.2.2.2.2.1, .int .i64 z.2.2.2.2.2.2.1, .lst tRange z.2.2.2.2.2.2.2.1, .lst tWrite z.2.2.2.2.2.2.2.2.1, .bool z.2.2.2.2.2.2.2.2.2.1, .str z.2.2.2.2.2.2.2.2.2.2.1], .box [.int .i64 z.2.2.2.2.2.2.2.2.2.2.2.1, .int .i64 z.2.2.2.2.2.2.2.2.2.2.2.2.1, .int .i64 z.2.2.2.2.2.2.2.2.2.2.2.2.2.1, .int .i64 z.2.2.2.2.2.2.2.2.2.2.2.2.2.2.1, .lst tRange z.2.2.2.2.2.2.2.2.2.2.2.2.2.2.2.1, .lst tWrite z.2.2.2.2.2.2.2.2.2.2.2.2.2.2.2.2.1, .bool z.2.2.2.2.2.2.2.2.2.2.2.2.2.2.2.2.2.1, .str z.2.2.2.2.2.2.2.2.2.2.2.2.2.2.2.2.2.2]])))

theorem spec_Danger_jx5000011 (x : q9T) : exec G57 ⟨0, 92, spec_Danger_loops⟩ (loopBody Try.f31 5000011) (bodyK ⟨0, 92, spec_Danger_loops⟩ [1, 2, 4, 5, 6] []) (setEs (deads 92) [1, 2, 4, 5, 6] (spec_Danger_jv5000011 x)) (spec_Danger_js5000011 x) = spec_Danger_j5000011 x (fun z => some ⟨(spec_Danger_je5000011 z).1, (spec_Danger_je5000011 z).2.1, (spec_Danger_je5000011 z).2.2⟩) := by
  kernel_rfl

theorem spec_Danger_lo5000011 : ∀ sp, (spec_Danger_loops 5000011) = some sp → CutOk G57 ⟨0, 92, spec_Danger_loops⟩ sp (loopBody Try.f31 5000011) := by
  intro sp hsp vals st k r h
  cases hsp
  dsimp only at h
  rcases onPats_inv2 h with ⟨p, q, rfl, rfl, h⟩ | h
  · exact cut_runs spec_Danger_jp5000011 spec_Danger_jv5000011 spec_Danger_js5000011 spec_Danger_je5000011 spec_Danger_jx5000011 (p.1, p.2.2.1, p.2.2.2.1, q.1.1, q.1.2.1, q.1.2.2.1, q.1.2.2.2.1, q.1.2.2.2.2.1, q.1.2.2.2.2.2.1, q.1.2.2.2.2.2.2.1, q.1.2.2.2.2.2.2.2.1, q.2.1.1, q.2.1.2.1, q.2.1.2.2.1, q.2.1.2.2.2.1, q.2.1.2.2.2.2.1, q.2.1.2.2.2.2.2.1, q.2.1.2.2.2.2.2.2.1, q.2.1.2.2.2.2.2.2.2.1) _ k r (fun z => by rcases z with z | z <;> rfl) h
  cases h

def spec_Danger_jv5000009 : q9T → List AV := (fun x => [.lst tTxn x.1, .bp 0 0, .bool x.2.1, .int .i64 x.2.2.1, .bp 1 0])
def spec_Danger_js5000009 : q9T → St := (fun x => [.box [.int .i64 x.2.2.2.1, .int .i64 x.2.2.2.2.1, .int .i64 x.2.2.2.2.2.1, .int .i64 x.2.2.2.2.2.2.1, .lst tRange x.2.2.2.2.2.2.2.1, .lst tWrite x.2.2.2.2.2.2.2.2.1, .bool x.2.2.2.2.2.2.2.2.2.1, .str x.2.2.2.2.2.2.2.2.2.2.1], .box [.int .i64 x.2.2.2.2.2.2.2.2.2.2.2.1, .int .i64 x.2.2.2.2.2.2.2.2.2.2.2.2.1, .int .i64 x.2.2.2.2.2.2.2.2.2.2.2.2.2.1, .int .i64 x.2.2.2.2.2.2.2.2.2.2.2.2.2.2.1, .lst tRange x.2.2.2.2.2.2.2.2.2.2.2.2.2.2.2.1, .lst tWrite x.2.2.2.2.2.2.2.2.2.2.2.2.2.2.2.2.1, .bool x.2.2.2.2.2.2.2.2.2.2.2.2.2.2.2.2.2.1, .str x.2.2.2.2.2.2.2.2.2.2.2.2.2.2.2.2.2.2]])
def spec_Danger_je5000009 : (q9T ⊕ q9T) → Out × List AV × St := (Sum.elim (fun z => (.ret, [.lst tTxn z.1, .bp 0 0, .bool z.2.1, .int .i64 z.2.2.1, .bp 1 0], [.box [.int .i64 z.2.2.2.1, .int .i64 z.2.2.2.2.1, .int .i64 z.2.2.2.2.2.1, .int .i64 z.2.2.2.2.2.2.1, .lst tRange z.2.2.2.2.2.2.2.1, .lst tWrite z.2.2.2.2.2.2.2.2.1, .bool z.2.2.2.2.2.2.2.2.2.1, .str z.2.2.2.2.2.2.2.2.2.2.1], .box [.int .i64 z.2.2.2.2.2.2.2.2.2.2.2.1, .int .i64 z.2.2.2.2.2.2.2.2.2.2.2.2.1, .int .i64 z.2.2.2.2.2.2.2.2.2.2.2.2.2.1, .int .i64 z.2.2.2.2.2.2.2.2.2.2.2.2.2.2.1, .lst tRange z.2.2.2.2.2.2.2.2.2.2.2.2.2.2.2.1, .lst tWrite z.2.2.2.2.2.2.2.2.2.2.2.2.2.2.2.2.1, .bool z.2.2.2.2.2.2.2.2.2.2.2.2.2.2.2.2.2.1, .str z.2.2.2.2.2.2.2.2.2.2.2.2.2.2.2.2.2.2]])) (fun z => (.norm, [.lst tTxn z.1, .bp 0 0, .bool z.2.1, .int .i64 z.2.2.1, .bp 1 0], [.box [.int .i64 z.2.2.2.1, .int .i64 z.2.2.2.2.1, .int .i64 z.2.2.2.2.2.1, .int .i64 z.2.2.2.2.2.2.1, .lst tRange z.2.2.2.2.2.2.2.1, .lst tWrite z.2.2.2.2.2.2.2.2.1, .bool z.2.2.2.2.2.2.2.2.2.1, .str z.2.2.2.2.2.2.2.2.2.2.1], .box [.int .i64 z.2.2.2.2.2.2.2.2.2.2.2.1, .int .i64 z.2.2.2.2.2.2.2.2.2.2.2.2.1, .int .i64 z.2.2.2.2.2.2.2.2.2.2.2.2.2.1, .int .i64 z.2.2.2.2.2.2.2.2.2.2.2.2.2.2.1, .lst tRange z.2.2.2.2.2.2.2.2.2.2.2.2.2.2.2.1, .lst tWrite z.2.2.2.2.2.2.2.2.2.2.2.2.2.2.2.2.1, .bool z.2.2.2.2.2.2.2.2.2.2.2.2.2.2.2.2.2.1, .str z.2.2.2.2.2.2.2.2.2.2.2.2.2.2.2.2.2.2]])))

theorem spec_Danger_jx5000009 (x : q9T) : exec G57 ⟨0, 92, spec_Danger_loops⟩ (loopBody Try.f31 5000009) (bodyK ⟨0, 92, spec_Danger_loops⟩ [1, 2, 4, 5, 6] []) (setEs (deads 92) [1, 2, 4, 5, 6] (spec_Danger_jv5000009 x)) (spec_Danger_js5000009 x) = spec_Danger_j5000009 x (fun z => some ⟨(spec_Danger_je5000009 z).1, (spec_Danger_je5000009 z).2.1, (spec_Danger_je5000009 z).2.2⟩) := by
  kernel_rfl

theorem spec_Danger_lo5000009 : ∀ sp, (spec_Danger_loops 5000009) = some sp → CutOk G57 ⟨0, 92, spec_Danger_loops⟩ sp (loopBody Try.f31 5000009) := by
  intro sp hsp vals st k r h
  cases hsp
  dsimp only at h
  rcases onPats_inv2 h with ⟨p, q, rfl, rfl, h⟩ | h
  · exact cut_runs spec_Danger_jp5000009 spec_Danger_jv5000009 spec_Danger_js5000009 spec_Danger_je5000009 spec_Danger_jx5000009 (p.1, p.2.2.1, p.2.2.2.1, q.1.1, q.1.2.1, q.1.2.2.1, q.1.2.2.2.1, q.1.2.2.2.2.1, q.1.2.2.2.2.2.1, q.1.2.2.2.2.2.2.1, q.1.2.2.2.2.2.2.2.1, q.2.1.1, q.2.1.2.1, q.2.1.2.2.1, q.2.1.2.2.2.1, q.2.1.2.2.2.2.1, q.2.1.2.2.2.2.2.1, q.2.1.2.2.2.2.2.2.1, q.2.1.2.2.2.2.2.2.2.1) _ k r (fun z => by rcases z with z | z <;> rfl) h
  cases h

def spec_Danger_v0 : q10T → List AV := (fun x => [.lst tTxn x.1, .bp 0 0, .bool x.2.1, .int .i64 x.2.2.1])
def spec_Danger_s0 : q10T → St := (fun x => [.box [.int .i64 x.2.2.2.1, .int .i64 x.2.2.2.2.1, .int .i64 x.2.2.2.2.2.1, .int .i64 x.2.2.2.2.2.2.1, .lst tRange x.2.2.2.2.2.2.2.1, .lst tWrite x.2.2.2.2.2.2.2.2.1, .bool x.2.2.2.2.2.2.2.2.2.1, .str x.2.2.2.2.2.2.2.2.2.2]])
def spec_Danger_e0 : (q10T ⊕ q10T) → Out × List AV × St := (Sum.elim (fun z => (.ret, [.lst tTxn z.1, .bp 0 0, .bool z.2.1, .int .i64 z.2.2.1], [.box [.int .i64 z.2.2.2.1, .int .i64 z.2.2.2.2.1, .int .i64 z.2.2.2.2.2.1, .int .i64 z.2.2.2.2.2.2.1, .lst tRange z.2.2.2.2.2.2.2.1, .lst tWrite z.2.2.2.2.2.2.2.2.1, .bool z.2.2.2.2.2.2.2.2.2.1, .str z.2.2.2.2.2.2.2.2.2.2]])) (fun z => ((.exit 0), [.lst tTxn z.1, .bp 0 0, .bool z.2.1, .int .i64 z.2.2.1], [.box [.int .i64 z.2.2.2.1, .int .i64 z.2.2.2.2.1, .int .i64 z.2.2.2.2.2.1, .int .i64 z.2.2.2.2.2.2.1, .lst tRange z.2.2.2.2.2.2.2.1, .lst tWrite z.2.2.2.2.2.2.2.2.1, .bool z.2.2.2.2.2.2.2.2.2.1, .str z.2.2.2.2.2.2.2.2.2.2]])))

theorem spec_Danger_bx0 (x : q10T) : exec G57 ⟨0, 92, spec_Danger_loops⟩ (loopBody Try.f31 0) (bodyK ⟨0, 92, spec_Danger_loops⟩ [1, 2, 4, 5] []) (setEs (deads 92) [1, 2, 4, 5] (spec_Danger_v0 x)) (spec_Danger_s0 x) = spec_Danger_b0 x (Sum.elim (fun y => some ⟨.norm, spec_Danger_v0 y, spec_Danger_s0 y⟩) fun z => some ⟨(spec_Danger_e0 z).1, (spec_Danger_e0 z).2.1, (spec_Danger_e0 z).2.2⟩) := by
  kernel_rfl

theorem spec_Danger_lo0 : ∀ sp, (spec_Danger_loops 0) = some sp → LoopOk G57 ⟨0, 92, spec_Danger_loops⟩ sp (loopBody Try.f31 0) := by
  intro sp hsp vals st k r h
  cases hsp
  dsimp only at h
  rcases onPats_inv2 h with ⟨p, q, rfl, rfl, h⟩ | h
  · exact loop_runs2 spec_Danger_bp0 spec_Danger_v0 spec_Danger_s0 spec_Danger_e0 (fun z => by rcases z with z | z <;> (intro h; cases h)) spec_Danger_bx0 Fuel (p.1, p.2.2.1, p.2.2.2.1, q.1.1, q.1.2.1, q.1.2.2.1, q.1.2.2.2.1, q.1.2.2.2.2.1, q.1.2.2.2.2.2.1, q.1.2.2.2.2.2.2.1, q.1.2.2.2.2.2.2.2.1) _ k r (fun z => by rcases z with z | z <;> rfl) h
  cases h

def spec_Danger_jv5000003 : q8T → List AV := (fun x => [.lst tTxn x.1, .bp 0 0, .bool x.2.1])
def spec_Danger_js5000003 : q8T → St := (fun x => [.box [.int .i64 x.2.2.1, .int .i64 x.2.2.2.1, .int .i64 x.2.2.2.2.1, .int .i64 x.2.2.2.2.2.1, .lst tRange x.2.2.2.2.2.2.1, .lst tWrite x.2.2.2.2.2.2.2.1, .bool x.2.2.2.2.2.2.2.2.1, .str x.2.2.2.2.2.2.2.2.2]])
def spec_Danger_je5000003 : q8T → Out × List AV × St := (fun z => (.ret, [.lst tTxn z.1, .bp 0 0, .bool z.2.1], [.box [.int .i64 z.2.2.1, .int .i64 z.2.2.2.1, .int .i64 z.2.2.2.2.1, .int .i64 z.2.2.2.2.2.1, .lst tRange z.2.2.2.2.2.2.1, .lst tWrite z.2.2.2.2.2.2.2.1, .bool z.2.2.2.2.2.2.2.2.1, .str z.2.2.2.2.2.2.2.2.2]]))

theorem spec_Danger_jx5000003 (x : q8T) : exec G57 ⟨0, 92, spec_Danger_loops⟩ (loopBody Try.f31 5000003) (bodyK ⟨0, 92, spec_Danger_loops⟩ [1, 2, 4] []) (setEs (deads 92) [1, 2, 4] (spec_Danger_jv5000003 x)) (spec_Danger_js5000003 x) = spec_Danger_j5000003 x (fun z => some ⟨(spec_Danger_je5000003 z).1, (spec_Danger_je5000003 z).2.1, (spec_Danger_je5000003 z).2.2⟩) := by
  kernel_rfl

theorem spec_Danger_lo5000003 : ∀ sp, (spec_Danger_loops 5000003) = some sp → CutOk G57 ⟨0, 92, spec_Danger_loops⟩ sp (loopBody Try.f31 5000003) := by
  intro sp hsp vals st k r h
  cases hsp
  dsimp only at h
  rcases onPats_inv2 h with ⟨p, q, rfl, rfl, h⟩ | h
  · exact cut_runs spec_Danger_jp5000003 spec_Danger_jv5000003 spec_Danger_js5000003 spec_Danger_je5000003 spec_Danger_jx5000003 (p.1, p.2.2.1, q.1.1, q.1.2.1, q.1.2.2.1, q.1.2.2.2.1, q.1.2.2.2.2.1, q.1.2.2.2.2.2.1, q.1.2.2.2.2.2.2.1, q.1.2.2.2.2.2.2.2.1) _ k r (fun z => rfl) h
  cases h

theorem spec_Danger_y (a0 : Int) (a1 : Int) (a2 : Int) (a3 : Int) (a4 : (List dRange)) (a5 : (List dWrite)) (a6 : Bool) (a7 : ByteArray) (a8 : (List dTxn)) : execFn G57 spec_Danger_loops Try.f31 [.agg [.int .i64 a0, .int .i64 a1, .int .i64 a2, .int .i64 a3, .lst tRange a4, .lst tWrite a5, .bool a6, .str a7], .lst tTxn a8] [] = spec_Danger_k (a0, (a1, (a2, (a3, (a4, (a5, (a6, a7))))))) a8 (fun (y : Bool) => some ⟨.ret, [.bool y], []⟩) := by rw [spec_Danger_e]; kernel_rfl

theorem spec_Danger_l : LoopsOk G57 ⟨0, 92, spec_Danger_loops⟩ (Try.f31.body.getD .skip) :=
  loopsOk_of (ids := [6000003, 2, 5000011, 5000009, 0, 5000003]) (by kernel_rfl) (by kernel_rfl) ⟨spec_Danger_lo6000003, ⟨spec_Danger_lo2, ⟨spec_Danger_lo5000011, ⟨spec_Danger_lo5000009, ⟨spec_Danger_lo0, ⟨spec_Danger_lo5000003, trivial⟩⟩⟩⟩⟩⟩

theorem spec_Danger_c : Contract Try.prog 31 spec_Danger_g := by
  refine told G57_ok follows Try.func31 (c := Try.f31.body.getD .skip) (by kernel_rfl) ?_
  intro args s k r hk
  unfold spec_Danger_g at hk
  rcases onPats_inv hk with ⟨p, q, rfl, rfl⟩ | hk
  · exact ⟨spec_Danger_loops, spec_Danger_q p.1.1 p.1.2.1 p.1.2.2.1 p.1.2.2.2.1 p.1.2.2.2.2.1 p.1.2.2.2.2.2.1 p.1.2.2.2.2.2.2.1 p.1.2.2.2.2.2.2.2.1 p.2.1, spec_Danger_y p.1.1 p.1.2.1 p.1.2.2.1 p.1.2.2.2.1 p.1.2.2.2.2.1 p.1.2.2.2.2.2.1 p.1.2.2.2.2.2.2.1 p.1.2.2.2.2.2.2.2.1 p.2.1, spec_Danger_l⟩
  cases hk

def G58 : Glob := G57.add 31 spec_Danger_g

theorem G58_ok : GlobOk Try.prog G58 := G57_ok.add ⟨Try.f31, Try.func31, by kernel_rfl, by kernel_rfl⟩ spec_Danger_c



def impl_ReadyDanger_1_loops : Nat → Option LoopSpec
  | _ => none

theorem impl_ReadyDanger_1_y (a0 : Int) (a1 : Int) (a2 : Int) (a3 : Int) (a4 : (List dRange)) (a5 : (List dWrite)) (a6 : Bool) (a7 : ByteArray) (a8 : Int) (a9 : Int) (a10 : Int) (a11 : Int) (a12 : (List dRange)) (a13 : (List dWrite)) (a14 : Bool) (a15 : ByteArray) : execFn G58 impl_ReadyDanger_1_loops Try.f111 [.agg [.int .i64 a0, .int .i64 a1, .int .i64 a2, .int .i64 a3, .lst tRange a4, .lst tWrite a5, .bool a6, .str a7], .bp 0 0] [.box [.int .i64 a8, .int .i64 a9, .int .i64 a10, .int .i64 a11, .lst tRange a12, .lst tWrite a13, .bool a14, .str a15]] = impl_ReadyDanger_1_k (a0, (a1, (a2, (a3, (a4, (a5, (a6, a7))))))) a8 a9 a10 a11 a12 a13 a14 a15 (fun (y : q29T) => some ⟨.ret, [.bool y.1], [.box [.int .i64 y.2.1, .int .i64 y.2.2.1, .int .i64 y.2.2.2.1, .int .i64 y.2.2.2.2.1, .lst tRange y.2.2.2.2.2.1, .lst tWrite y.2.2.2.2.2.2.1, .bool y.2.2.2.2.2.2.2.1, .str y.2.2.2.2.2.2.2.2]]⟩) := by rw [impl_ReadyDanger_1_e]; kernel_rfl

theorem impl_ReadyDanger_1_l : LoopsOk G58 ⟨1, 11, impl_ReadyDanger_1_loops⟩ (Try.f111.body.getD .skip) :=
  loopsOk_of (ids := []) (by kernel_rfl) (by kernel_rfl) trivial

theorem impl_ReadyDanger_1_c : Contract Try.prog 111 impl_ReadyDanger_1_g := by
  refine told G58_ok follows Try.func111 (c := Try.f111.body.getD .skip) (by kernel_rfl) ?_
  intro args s k r hk
  unfold impl_ReadyDanger_1_g at hk
  rcases onPats_inv hk with ⟨p, q, rfl, rfl⟩ | hk
  · exact ⟨impl_ReadyDanger_1_loops, impl_ReadyDanger_1_q p.1.1 p.1.2.1 p.1.2.2.1 p.1.2.2.2.1 p.1.2.2.2.2.1 p.1.2.2.2.2.2.1 p.1.2.2.2.2.2.2.1 p.1.2.2.2.2.2.2.2.1 q.1.1 q.1.2.1 q.1.2.2.1 q.1.2.2.2.1 q.1.2.2.2.2.1 q.1.2.2.2.2.2.1 q.1.2.2.2.2.2.2.1 q.1.2.2.2.2.2.2.2.1, impl_ReadyDanger_1_y p.1.1 p.1.2.1 p.1.2.2.1 p.1.2.2.2.1 p.1.2.2.2.2.1 p.1.2.2.2.2.2.1 p.1.2.2.2.2.2.2.1 p.1.2.2.2.2.2.2.2.1 q.1.1 q.1.2.1 q.1.2.2.1 q.1.2.2.2.1 q.1.2.2.2.2.1 q.1.2.2.2.2.2.1 q.1.2.2.2.2.2.2.1 q.1.2.2.2.2.2.2.2.1, impl_ReadyDanger_1_l⟩
  cases hk

def G59 : Glob := G58.add 111 impl_ReadyDanger_1_g

theorem G59_ok : GlobOk Try.prog G59 := G58_ok.add ⟨Try.f111, Try.func111, by kernel_rfl, by kernel_rfl⟩ impl_ReadyDanger_1_c



def slices_IndexFunc_Txn_ReadyDanger_1_loops : Nat → Option LoopSpec
  | 0 => some ⟨[0, 1, 4, 7, 8], [], fun vals st k => onPats [.lst tTxn, .fn 111 [.bp 0 0], .int .i64, .int .i64, .int .i64] [.box [.int .i64, .int .i64, .int .i64, .int .i64, .lst tRange, .lst tWrite, .bool, .str]] vals st (fun p q => loopK slices_IndexFunc_Txn_ReadyDanger_1_b0 Fuel (p.1, p.2.2.1, p.2.2.2.1, p.2.2.2.2.1, q.1.1, q.1.2.1, q.1.2.2.1, q.1.2.2.2.1, q.1.2.2.2.2.1, q.1.2.2.2.2.2.1, q.1.2.2.2.2.2.2.1, q.1.2.2.2.2.2.2.2.1) (Sum.elim (fun z => k .ret [.lst tTxn z.1, .fn 111 [.bp 0 0], .int .i64 z.2.1, .int .i64 z.2.2.1, .int .i64 z.2.2.2.1] [.box [.int .i64 z.2.2.2.2.1, .int .i64 z.2.2.2.2.2.1, .int .i64 z.2.2.2.2.2.2.1, .int .i64 z.2.2.2.2.2.2.2.1, .lst tRange z.2.2.2.2.2.2.2.2.1, .lst tWrite z.2.2.2.2.2.2.2.2.2.1, .bool z.2.2.2.2.2.2.2.2.2.2.1, .str z.2.2.2.2.2.2.2.2.2.2.2]]) (fun z => k (.exit 0) [.lst tTxn z.1, .fn 111 [.bp 0 0], .int .i64 z.2.1, .int .i64 z.2.2.1, .int .i64 z.2.2.2.1] [.box [.int .i64 z.2.2.2.2.1, .int .i64 z.2.2.2.2.2.1, .int .i64 z.2.2.2.2.2.2.1, .int .i64 z.2.2.2.2.2.2.2.1, .lst tRange z.2.2.2.2.2.2.2.2.1, .lst tWrite z.2.2.2.2.2.2.2.2.2.1, .bool z.2.2.2.2.2.2.2.2.2.2.1, .str z.2.2.2.2.2.2.2.2.2.2.2]])))
      (none)⟩
  | _ => none

def slices_IndexFunc_Txn_ReadyDanger_1_v0 : q15T → List AV := (fun x => [.lst tTxn x.1, .fn 111 [.bp 0 0], .int .i64 x.2.1, .int .i64 x.2.2.1, .int .i64 x.2.2.2.1])
def slices_IndexFunc_Txn_ReadyDanger_1_s0 : q15T → St := (fun x => [.box [.int .i64 x.2.2.2.2.1, .int .i64 x.2.2.2.2.2.1, .int .i64 x.2.2.2.2.2.2.1, .int .i64 x.2.2.2.2.2.2.2.1, .lst tRange x.2.2.2.2.2.2.2.2.1, .lst tWrite x.2.2.2.2.2.2.2.2.2.1, .bool x.2.2.2.2.2.2.2.2.2.2.1, .str x.2.2.2.2.2.2.2.2.2.2.2]])
def slices_IndexFunc_Txn_ReadyDanger_1_e0 : (q15T ⊕ q15T) → Out × List AV × St := (Sum.elim (fun z => (.ret, [.lst tTxn z.1, .fn 111 [.bp 0 0], .int .i64 z.2.1, .int .i64 z.2.2.1, .int .i64 z.2.2.2.1], [.box [.int .i64 z.2.2.2.2.1, .int .i64 z.2.2.2.2.2.1, .int .i64 z.2.2.2.2.2.2.1, .int .i64 z.2.2.2.2.2.2.2.1, .lst tRange z.2.2.2.2.2.2.2.2.1, .lst tWrite z.2.2.2.2.2.2.2.2.2.1, .bool z.2.2.2.2.2.2.2.2.2.2.1, .str z.2.2.2.2.2.2.2.2.2.2.2]])) (fun z => ((.exit 0), [.lst tTxn z.1, .fn 111 [.bp 0 0], .int .i64 z.2.1, .int .i64 z.2.2.1, .int .i64 z.2.2.2.1], [.box [.int .i64 z.2.2.2.2.1, .int .i64 z.2.2.2.2.2.1, .int .i64 z.2.2.2.2.2.2.1, .int .i64 z.2.2.2.2.2.2.2.1, .lst tRange z.2.2.2.2.2.2.2.2.1, .lst tWrite z.2.2.2.2.2.2.2.2.2.1, .bool z.2.2.2.2.2.2.2.2.2.2.1, .str z.2.2.2.2.2.2.2.2.2.2.2]])))

theorem slices_IndexFunc_Txn_ReadyDanger_1_bx0 (x : q15T) : exec G59 ⟨1, 19, slices_IndexFunc_Txn_ReadyDanger_1_loops⟩ (loopBody Try.f81 0) (bodyK ⟨1, 19, slices_IndexFunc_Txn_ReadyDanger_1_loops⟩ [0, 1, 4, 7, 8] []) (setEs (deads 19) [0, 1, 4, 7, 8] (slices_IndexFunc_Txn_ReadyDanger_1_v0 x)) (slices_IndexFunc_Txn_ReadyDanger_1_s0 x) = slices_IndexFunc_Txn_ReadyDanger_1_b0 x (Sum.elim (fun y => some ⟨.norm, slices_IndexFunc_Txn_ReadyDanger_1_v0 y, slices_IndexFunc_Txn_ReadyDanger_1_s0 y⟩) fun z => some ⟨(slices_IndexFunc_Txn_ReadyDanger_1_e0 z).1, (slices_IndexFunc_Txn_ReadyDanger_1_e0 z).2.1, (slices_IndexFunc_Txn_ReadyDanger_1_e0 z).2.2⟩) := by
  kernel_rfl

theorem slices_IndexFunc_Txn_ReadyDanger_1_lo0 : ∀ sp, (slices_IndexFunc_Txn_ReadyDanger_1_loops 0) = some sp → LoopOk G59 ⟨1, 19, slices_IndexFunc_Txn_ReadyDanger_1_loops⟩ sp (loopBody Try.f81 0) := by
  intro sp hsp vals st k r h
  cases hsp
  dsimp only at h
  rcases onPats_inv2 h with ⟨p, q, rfl, rfl, h⟩ | h
  · exact loop_runs2 slices_IndexFunc_Txn_ReadyDanger_1_bp0 slices_IndexFunc_Txn_ReadyDanger_1_v0 slices_IndexFunc_Txn_ReadyDanger_1_s0 slices_IndexFunc_Txn_ReadyDanger_1_e0 (fun z => by rcases z with z | z <;> (intro h; cases h)) slices_IndexFunc_Txn_ReadyDanger_1_bx0 Fuel (p.1, p.2.2.1, p.2.2.2.1, p.2.2.2.2.1, q.1.1, q.1.2.1, q.1.2.2.1, q.1.2.2.2.1, q.1.2.2.2.2.1, q.1.2.2.2.2.2.1, q.1.2.2.2.2.2.2.1, q.1.2.2.2.2.2.2.2.1) _ k r (fun z => by rcases z with z | z <;> rfl) h
  cases h

theorem slices_IndexFunc_Txn_ReadyDanger_1_y (a0 : (List dTxn)) (a1 : Int) (a2 : Int) (a3 : Int) (a4 : Int) (a5 : (List dRange)) (a6 : (List dWrite)) (a7 : Bool) (a8 : ByteArray) : execFn G59 slices_IndexFunc_Txn_ReadyDanger_1_loops Try.f81 [.lst tTxn a0, .fn 111 [.bp 0 0]] [.box [.int .i64 a1, .int .i64 a2, .int .i64 a3, .int .i64 a4, .lst tRange a5, .lst tWrite a6, .bool a7, .str a8]] = slices_IndexFunc_Txn_ReadyDanger_1_k a0 a1 a2 a3 a4 a5 a6 a7 a8 (fun (y : q42T) => some ⟨.ret, [.int .i64 y.1], [.box [.int .i64 y.2.1, .int .i64 y.2.2.1, .int .i64 y.2.2.2.1, .int .i64 y.2.2.2.2.1, .lst tRange y.2.2.2.2.2.1, .lst tWrite y.2.2.2.2.2.2.1, .bool y.2.2.2.2.2.2.2.1, .str y.2.2.2.2.2.2.2.2]]⟩) := by rw [slices_IndexFunc_Txn_ReadyDanger_1_e]; kernel_rfl

theorem slices_IndexFunc_Txn_ReadyDanger_1_l : LoopsOk G59 ⟨1, 19, slices_IndexFunc_Txn_ReadyDanger_1_loops⟩ (Try.f81.body.getD .skip) :=
  loopsOk_of (ids := [0]) (by kernel_rfl) (by kernel_rfl) ⟨slices_IndexFunc_Txn_ReadyDanger_1_lo0, trivial⟩

theorem slices_IndexFunc_Txn_c6 : Contract Try.prog 81 slices_IndexFunc_Txn_g6 := by
  refine told2 G59_ok follows Try.func81 (c := Try.f81.body.getD .skip) (by kernel_rfl) slices_IndexFunc_Txn_c5 ?_
  intro args s k r hk
  unfold slices_IndexFunc_Txn_g6 at hk
  rcases onPats_inv hk with ⟨p, q, rfl, rfl⟩ | hk
  · exact .inl ⟨slices_IndexFunc_Txn_ReadyDanger_1_loops, slices_IndexFunc_Txn_ReadyDanger_1_q p.1 q.1.1 q.1.2.1 q.1.2.2.1 q.1.2.2.2.1 q.1.2.2.2.2.1 q.1.2.2.2.2.2.1 q.1.2.2.2.2.2.2.1 q.1.2.2.2.2.2.2.2.1, slices_IndexFunc_Txn_ReadyDanger_1_y p.1 q.1.1 q.1.2.1 q.1.2.2.1 q.1.2.2.2.1 q.1.2.2.2.2.1 q.1.2.2.2.2.2.1 q.1.2.2.2.2.2.2.1 q.1.2.2.2.2.2.2.2.1, slices_IndexFunc_Txn_ReadyDanger_1_l⟩
  exact .inr hk

def G60 : Glob := G59.add 81 slices_IndexFunc_Txn_g6

theorem G60_ok : GlobOk Try.prog G60 := G59_ok.add ⟨Try.f81, Try.func81, by kernel_rfl, by kernel_rfl⟩ slices_IndexFunc_Txn_c6



def slices_ContainsFunc_Txn_ReadyDanger_1_loops : Nat → Option LoopSpec
  | _ => none

theorem slices_ContainsFunc_Txn_ReadyDanger_1_y (a0 : (List dTxn)) (a1 : Int) (a2 : Int) (a3 : Int) (a4 : Int) (a5 : (List dRange)) (a6 : (List dWrite)) (a7 : Bool) (a8 : ByteArray) : execFn G60 slices_ContainsFunc_Txn_ReadyDanger_1_loops Try.f178 [.lst tTxn a0, .fn 111 [.bp 0 0]] [.box [.int .i64 a1, .int .i64 a2, .int .i64 a3, .int .i64 a4, .lst tRange a5, .lst tWrite a6, .bool a7, .str a8]] = slices_ContainsFunc_Txn_ReadyDanger_1_k a0 a1 a2 a3 a4 a5 a6 a7 a8 (fun (y : q29T) => some ⟨.ret, [.bool y.1], [.box [.int .i64 y.2.1, .int .i64 y.2.2.1, .int .i64 y.2.2.2.1, .int .i64 y.2.2.2.2.1, .lst tRange y.2.2.2.2.2.1, .lst tWrite y.2.2.2.2.2.2.1, .bool y.2.2.2.2.2.2.2.1, .str y.2.2.2.2.2.2.2.2]]⟩) := by rw [slices_ContainsFunc_Txn_ReadyDanger_1_e]; kernel_rfl

theorem slices_ContainsFunc_Txn_ReadyDanger_1_l : LoopsOk G60 ⟨1, 9, slices_ContainsFunc_Txn_ReadyDanger_1_loops⟩ (Try.f178.body.getD .skip) :=
  loopsOk_of (ids := []) (by kernel_rfl) (by kernel_rfl) trivial

theorem slices_ContainsFunc_Txn_c6 : Contract Try.prog 178 slices_ContainsFunc_Txn_g6 := by
  refine told2 G60_ok follows Try.func178 (c := Try.f178.body.getD .skip) (by kernel_rfl) slices_ContainsFunc_Txn_c5 ?_
  intro args s k r hk
  unfold slices_ContainsFunc_Txn_g6 at hk
  rcases onPats_inv hk with ⟨p, q, rfl, rfl⟩ | hk
  · exact .inl ⟨slices_ContainsFunc_Txn_ReadyDanger_1_loops, slices_ContainsFunc_Txn_ReadyDanger_1_q p.1 q.1.1 q.1.2.1 q.1.2.2.1 q.1.2.2.2.1 q.1.2.2.2.2.1 q.1.2.2.2.2.2.1 q.1.2.2.2.2.2.2.1 q.1.2.2.2.2.2.2.2.1, slices_ContainsFunc_Txn_ReadyDanger_1_y p.1 q.1.1 q.1.2.1 q.1.2.2.1 q.1.2.2.2.1 q.1.2.2.2.2.1 q.1.2.2.2.2.2.1 q.1.2.2.2.2.2.2.1 q.1.2.2.2.2.2.2.2.1, slices_ContainsFunc_Txn_ReadyDanger_1_l⟩
  exact .inr hk

def G61 : Glob := G60.add 178 slices_ContainsFunc_Txn_g6

theorem G61_ok : GlobOk Try.prog G61 := G60_ok.add ⟨Try.f178, Try.func178, by kernel_rfl, by kernel_rfl⟩ slices_ContainsFunc_Txn_c6



def impl_some_ReadyDanger_1_loops : Nat → Option LoopSpec
  | _ => none

theorem impl_some_ReadyDanger_1_y (a0 : (List dTxn)) (a1 : Int) (a2 : Int) (a3 : Int) (a4 : Int) (a5 : (List dRange)) (a6 : (List dWrite)) (a7 : Bool) (a8 : ByteArray) : execFn G61 impl_some_ReadyDanger_1_loops Try.f100 [.lst tTxn a0, .fn 111 [.bp 0 0]] [.box [.int .i64 a1, .int .i64 a2, .int .i64 a3, .int .i64 a4, .lst tRange a5, .lst tWrite a6, .bool a7, .str a8]] = impl_some_ReadyDanger_1_k a0 a1 a2 a3 a4 a5 a6 a7 a8 (fun (y : q29T) => some ⟨.ret, [.bool y.1], [.box [.int .i64 y.2.1, .int .i64 y.2.2.1, .int .i64 y.2.2.2.1, .int .i64 y.2.2.2.2.1, .lst tRange y.2.2.2.2.2.1, .lst tWrite y.2.2.2.2.2.2.1, .bool y.2.2.2.2.2.2.2.1, .str y.2.2.2.2.2.2.2.2]]⟩) := by rw [impl_some_ReadyDanger_1_e]; kernel_rfl

theorem impl_some_ReadyDanger_1_l : LoopsOk G61 ⟨1, 8, impl_some_ReadyDanger_1_loops⟩ (Try.f100.body.getD .skip) :=
  loopsOk_of (ids := []) (by kernel_rfl) (by kernel_rfl) trivial

theorem impl_some_c6 : Contract Try.prog 100 impl_some_g6 := by
  refine told2 G61_ok follows Try.func100 (c := Try.f100.body.getD .skip) (by kernel_rfl) impl_some_c5 ?_
  intro args s k r hk
  unfold impl_some_g6 at hk
  rcases onPats_inv hk with ⟨p, q, rfl, rfl⟩ | hk
  · exact .inl ⟨impl_some_ReadyDanger_1_loops, impl_some_ReadyDanger_1_q p.1 q.1.1 q.1.2.1 q.1.2.2.1 q.1.2.2.2.1 q.1.2.2.2.2.1 q.1.2.2.2.2.2.1 q.1.2.2.2.2.2.2.1 q.1.2.2.2.2.2.2.2.1, impl_some_ReadyDanger_1_y p.1 q.1.1 q.1.2.1 q.1.2.2.1 q.1.2.2.2.1 q.1.2.2.2.2.1 q.1.2.2.2.2.2.1 q.1.2.2.2.2.2.2.1 q.1.2.2.2.2.2.2.2.1, impl_some_ReadyDanger_1_l⟩
  exact .inr hk

def G62 : Glob := G61.add 100 impl_some_g6

theorem G62_ok : GlobOk Try.prog G62 := G61_ok.add ⟨Try.f100, Try.func100, by kernel_rfl, by kernel_rfl⟩ impl_some_c6



def impl_ReadyDanger_2_1_loops : Nat → Option LoopSpec
  | _ => none

theorem impl_ReadyDanger_2_1_y (a0 : Int) (a1 : Int) (a2 : Int) (a3 : Int) (a4 : (List dRange)) (a5 : (List dWrite)) (a6 : Bool) (a7 : ByteArray) (a8 : Int) (a9 : Int) (a10 : Int) (a11 : Int) (a12 : (List dRange)) (a13 : (List dWrite)) (a14 : Bool) (a15 : ByteArray) (a16 : Int) (a17 : Int) (a18 : Int) (a19 : Int) (a20 : (List dRange)) (a21 : (List dWrite)) (a22 : Bool) (a23 : ByteArray) : execFn G62 impl_ReadyDanger_2_1_loops Try.f113 [.agg [.int .i64 a0, .int .i64 a1, .int .i64 a2, .int .i64 a3, .lst tRange a4, .lst tWrite a5, .bool a6, .str a7], .bp 0 0, .bp 1 0] [.box [.int .i64 a8, .int .i64 a9, .int .i64 a10, .int .i64 a11, .lst tRange a12, .lst tWrite a13, .bool a14, .str a15], .box [.int .i64 a16, .int .i64 a17, .int .i64 a18, .int .i64 a19, .lst tRange a20, .lst tWrite a21, .bool a22, .str a23]] = impl_ReadyDanger_2_1_k (a0, (a1, (a2, (a3, (a4, (a5, (a6, a7))))))) a8 a9 a10 a11 a12 a13 a14 a15 a16 a17 a18 a19 a20 a21 a22 a23 (fun (y : q28T) => some ⟨.ret, [.bool y.1], [.box [.int .i64 y.2.1, .int .i64 y.2.2.1, .int .i64 y.2.2.2.1, .int .i64 y.2.2.2.2.1, .lst tRange y.2.2.2.2.2.1, .lst tWrite y.2.2.2.2.2.2.1, .bool y.2.2.2.2.2.2.2.1, .str y.2.2.2.2.2.2.2.2.1], .box [.int .i64 y.2.2.2.2.2.2.2.2.2.1, .int .i64 y.2.2.2.2.2.2.2.2.2.2.1, .int .i64 y.2.2.2.2.2.2.2.2.2.2.2.1, .int .i64 y.2.2.2.2.2.2.2.2.2.2.2.2.1, .lst tRange y.2.2.2.2.2.2.2.2.2.2.2.2.2.1, .lst tWrite y.2.2.2.2.2.2.2.2.2.2.2.2.2.2.1, .bool y.2.2.2.2.2.2.2.2.2.2.2.2.2.2.2.1, .str y.2.2.2.2.2.2.2.2.2.2.2.2.2.2.2.2]]⟩) := by rw [impl_ReadyDanger_2_1_e]; kernel_rfl

theorem impl_ReadyDanger_2_1_l : LoopsOk G62 ⟨2, 19, impl_ReadyDanger_2_1_loops⟩ (Try.f113.body.getD .skip) :=
  loopsOk_of (ids := []) (by kernel_rfl) (by kernel_rfl) trivial

theorem impl_ReadyDanger_2_1_c : Contract Try.prog 113 impl_ReadyDanger_2_1_g := by
  refine told G62_ok follows Try.func113 (c := Try.f113.body.getD .skip) (by kernel_rfl) ?_
  intro args s k r hk
  unfold impl_ReadyDanger_2_1_g at hk
  rcases onPats_inv hk with ⟨p, q, rfl, rfl⟩ | hk
  · exact ⟨impl_ReadyDanger_2_1_loops, impl_ReadyDanger_2_1_q p.1.1 p.1.2.1 p.1.2.2.1 p.1.2.2.2.1 p.1.2.2.2.2.1 p.1.2.2.2.2.2.1 p.1.2.2.2.2.2.2.1 p.1.2.2.2.2.2.2.2.1 q.1.1 q.1.2.1 q.1.2.2.1 q.1.2.2.2.1 q.1.2.2.2.2.1 q.1.2.2.2.2.2.1 q.1.2.2.2.2.2.2.1 q.1.2.2.2.2.2.2.2.1 q.2.1.1 q.2.1.2.1 q.2.1.2.2.1 q.2.1.2.2.2.1 q.2.1.2.2.2.2.1 q.2.1.2.2.2.2.2.1 q.2.1.2.2.2.2.2.2.1 q.2.1.2.2.2.2.2.2.2.1, impl_ReadyDanger_2_1_y p.1.1 p.1.2.1 p.1.2.2.1 p.1.2.2.2.1 p.1.2.2.2.2.1 p.1.2.2.2.2.2.1 p.1.2.2.2.2.2.2.1 p.1.2.2.2.2.2.2.2.1 q.1.1 q.1.2.1 q.1.2.2.1 q.1.2.2.2.1 q.1.2.2.2.2.1 q.1.2.2.2.2.2.1 q.1.2.2.2.2.2.2.1 q.1.2.2.2.2.2.2.2.1 q.2.1.1 q.2.1.2.1 q.2.1.2.2.1 q.2.1.2.2.2.1 q.2.1.2.2.2.2.1 q.2.1.2.2.2.2.2.1 q.2.1.2.2.2.2.2.2.1 q.2.1.2.2.2.2.2.2.2.1, impl_ReadyDanger_2_1_l⟩
  cases hk

def G63 : Glob := G62.add 113 impl_ReadyDanger_2_1_g

theorem G63_ok : GlobOk Try.prog G63 := G62_ok.add ⟨Try.f113, Try.func113, by kernel_rfl, by kernel_rfl⟩ impl_ReadyDanger_2_1_c



def slices_IndexFunc_Txn_ReadyDanger_2_1_loops : Nat → Option LoopSpec
  | 0 => some ⟨[0, 1, 4, 7, 8], [], fun vals st k => onPats [.lst tTxn, .fn 113 [.bp 0 0, .bp 1 0], .int .i64, .int .i64, .int .i64] [.box [.int .i64, .int .i64, .int .i64, .int .i64, .lst tRange, .lst tWrite, .bool, .str], .box [.int .i64, .int .i64, .int .i64, .int .i64, .lst tRange, .lst tWrite, .bool, .str]] vals st (fun p q => loopK slices_IndexFunc_Txn_ReadyDanger_2_1_b0 Fuel (p.1, p.2.2.1, p.2.2.2.1, p.2.2.2.2.1, q.1.1, q.1.2.1, q.1.2.2.1, q.1.2.2.2.1, q.1.2.2.2.2.1, q.1.2.2.2.2.2.1, q.1.2.2.2.2.2.2.1, q.1.2.2.2.2.2.2.2.1, q.2.1.1, q.2.1.2.1, q.2.1.2.2.1, q.2.1.2.2.2.1, q.2.1.2.2.2.2.1, q.2.1.2.2.2.2.2.1, q.2.1.2.2.2.2.2.2.1, q.2.1.2.2.2.2.2.2.2.1) (Sum.elim (fun z => k .ret [.lst tTxn z.1, .fn 113 [.bp 0 0, .bp 1 0], .int .i64 z.2.1, .int .i64 z.2.2.1, .int .i64 z.2.2.2.1] [.box [.int .i64 z.2.2.2.2.1, .int .i64 z.2.2.2.2.2.1, .int .i64 z.2.2.2.2.2.2.1, .int .i64 z.2.2.2.2.2.2.2.1, .lst tRange z.2.2.2.2.2.2.2.2.1, .lst tWrite z.2.2.2.2.2.2.2.2.2.1, .bool z.2.2.2.2.2.2.2.2.2.2.1, .str z.2.2.2.2.2.2.2.2.2.2.2.1], .box [.int .i64 z.2.2.2.2.2.2.2.2.2.2.2.2.1, .int .i64 z.2.2.2.2.2.2.2.2.2.2.2.2.2.1, .int .i64 z.2.2.2.2.2.2.2.2.2.2.2.2.2.2.1, .int .i64 z.2.2.2.2.2.2.2.2.2.2.2.2.2.2.2.1, .lst tRange z.2.2.2.2.2.2.2.2.2.2.2.2.2.2.2.2.1, .lst tWrite z.2.2.2.2.2.2.2.2.2.2.2.2.2.2.2.2.2.1, .bool z.2.2.2.2.2.2.2.2.2.2.2.2.2.2.2.2.2.2.1, .str z.2.2.2.2.2.2.2.2.2.2.2.2.2.2.2.2.2.2.2]]) (fun z => k (.exit 0) [.lst tTxn z.1, .fn 113 [.bp 0 0, .bp 1 0], .int .i64 z.2.1, .int .i64 z.2.2.1, .int .i64 z.2.2.2.1] [.box [.int .i64 z.2.2.2.2.1, .int .i64 z.2.2.2.2.2.1, .int .i64 z.2.2.2.2.2.2.1, .int .i64 z.2.2.2.2.2.2.2.1, .lst tRange z.2.2.2.2.2.2.2.2.1, .lst tWrite z.2.2.2.2.2.2.2.2.2.1, .bool z.2.2.2.2.2.2.2.2.2.2.1, .str z.2.2.2.2.2.2.2.2.2.2.2.1], .box [.int .i64 z.2.2.2.2.2.2.2.2.2.2.2.2.1, .int .i64 z.2.2.2.2.2.2.2.2.2.2.2.2.2.1, .int .i64 z.2.2.2.2.2.2.2.2.2.2.2.2.2.2.1, .int .i64 z.2.2.2.2.2.2.2.2.2.2.2.2.2.2.2.1, .lst tRange z.2.2.2.2.2.2.2.2.2.2.2.2.2.2.2.2.1, .lst tWrite z.2.2.2.2.2.2.2.2.2.2.2.2.2.2.2.2.2.1, .bool z.2.2.2.2.2.2.2.2.2.2.2.2.2.2.2.2.2.2.1, .str z.2.2.2.2.2.2.2.2.2.2.2.2.2.2.2.2.2.2.2]])))
      (none)⟩
  | _ => none

def slices_IndexFunc_Txn_ReadyDanger_2_1_v0 : q14T → List AV := (fun x => [.lst tTxn x.1, .fn 113 [.bp 0 0, .bp 1 0], .int .i64 x.2.1, .int .i64 x.2.2.1, .int .i64 x.2.2.2.1])
def slices_IndexFunc_Txn_ReadyDanger_2_1_s0 : q14T → St := (fun x => [.box [.int .i64 x.2.2.2.2.1, .int .i64 x.2.2.2.2.2.1, .int .i64 x.2.2.2.2.2.2.1, .int .i64 x.2.2.2.2.2.2.2.1, .lst tRange x.2.2.2.2.2.2.2.2.1, .lst tWrite x.2.2.2.2.2.2.2.2.2.1, .bool x.2.2.2.2.2.2.2.2.2.2.1, .str x.2.2.2.2.2.2.2.2.2.2.2.1], .box [.int .i64 x.2.2.2.2.2.2.2.2.2.2.2.2.1, .int .i64 x.2.2.2.2.2.2.2.2.2.2.2.2.2.1, .int .i64 x.2.2.2.2.2.2.2.2.2.2.2.2.2.2.1, .int .i64 x.2.2.2.2.2.2.2.2.2.2.2.2.2.2.2.1, .lst tRange x.2.2.2.2.2.2.2.2.2.2.2.2.2.2.2.2.1, .lst tWrite x.2.2.2.2.2.2.2.2.2.2.2.2.2.2.2.2.2.1, .bool x.2.2.2.2.2.2.2.2.2.2.2.2.2.2.2.2.2.2.1, .str x.2.2.2.2.2.2.2.2.2.2.2.2.2.2.2.2.2.2.2]])
def slices_IndexFunc_Txn_ReadyDanger_2_1_e0 : (q14T ⊕ q14T) → Out × List AV × St := (Sum.elim (fun z => (.ret, [.lst tTxn z.1, .fn 113 [.bp 0 0, .bp 1 0], .int .i64 z.2.1, .int .i64 z.2.2.1, .int .i64 z.2.2.2.1], [.box [.int .i64 z.2.2.2.2.1, .int .i64 z.2.2.2.2.2.1, .int .i64 z.2.2.2.2.2.2.1, .int .i64 z.2.2.2.2.2.2.2.1, .lst tRange z.2.2.2.2.2.2.2.2.1, .lst tWrite z.2.2.2.2.2.2.2.2.2.1, .bool z.2.2.2.2.2.2.2.2.2.2.1, .str z.2.2.2.2.2.2.2.2.2.2.2.1], .box [.int .i64 z.2.2.2.2.2.2.2.2.2.2.2.2.1, .int .i64 z.2.2.2.2.2.2.2.2.2.2.2.2.2.1, .int .i64 z.2.2.2.2.2.2.2.2.2.2.2.2.2.2.1, .int .i64 z.2.2.2.2.2.2.2.2.2.2.2.2.2.2.2.1, .lst tRange z.2.2.2.2.2.2.2.2.2.2.2.2.2.2.2.2.1, .lst tWrite z.2.2.2.2.2.2.2.2.2.2.2.2.2.2.2.2.2.1, .bool z.2.2.2.2.2.2.2.2.2.2.2.2.2.2.2.2.2.2.1, .str z.2.2.2.2.2.2.2.2.2.2.2.2.2.2.2.2.2.2.2]])) (fun z => ((.exit 0), [.lst tTxn z.1, .fn 113 [.bp 0 0, .bp 1 0], .int .i64 z.2.1, .int .i64 z.2.2.1, .int .i64 z.2.2.2.1], [.box [.int .i64 z.2.2.2.2.1, .int .i64 z.2.2.2.2.2.1, .int .i64 z.2.2.2.2.2.2.1, .int .i64 z.2.2.2.2.2.2.2.1, .lst tRange z.2.2.2.2.2.2.2.2.1, .lst tWrite z.2.2.2.2.2.2.2.2.2.1, .bool z.2.2.2.2.2.2.2.2.2.2.1, .str z.2.2.2.2.2.2.2.2.2.2.2.1], .box [.int .i64 z.2.2.2.2.2.2.2.2.2.2.2.2.1, .int .i64 z.2.2.2.2.2.2.2.2.2.2.2.2.2.1, .int .i64 z.2.2.2.2.2.2.2.2.2.2.2.2.2.2.1, .int .i64 z.2.2.2.2.2.2.2.2.2.2.2.2.2.2.2.1, .lst tRange z.2.2.2.2.2.2.2.2.2.2.2.2.2.2.2.2.1, .lst tWrite z.2.2.2.2.2.2.2.2.2.2.2.2.2.2.2.2.2.1, .bool z.2.2.2.2.2.2.2.2.2.2.2.2.2.2.2.2.2.2.1, .str z.2.2.2.2.2.2.2.2.2.2.2.2.2.2.2.2.2.2.2]])))

theorem slices_IndexFunc_Txn_ReadyDanger_2_1_bx0 (x : q14T) : exec G63 ⟨2, 19, slices_IndexFunc_Txn_ReadyDanger_2_1_loops⟩ (loopBody Try.f81 0) (bodyK ⟨2, 19, slices_IndexFunc_Txn_ReadyDanger_2_1_loops⟩ [0, 1, 4, 7, 8] []) (setEs (deads 19) [0, 1, 4, 7, 8] (slices_IndexFunc_Txn_ReadyDanger_2_1_v0 x)) (slices_IndexFunc_Txn_ReadyDanger_2_1_s0 x) = slices_IndexFunc_Txn_ReadyDanger_2_1_b0 x (Sum.elim (fun y => some ⟨.norm, slices_IndexFunc_Txn_ReadyDanger_2_1_v0 y, slices_IndexFunc_Txn_ReadyDanger_2_1_s0 y⟩) fun z => some ⟨(slices_IndexFunc_Txn_ReadyDanger_2_1_e0 z).1, (slices_IndexFunc_Txn_ReadyDanger_2_1_e0 z).2.1, (slices_IndexFunc_Txn_ReadyDanger_2_1_e0 z).2.2⟩) := by
  kernel_rfl

theorem slices_IndexFunc_Txn_ReadyDanger_2_1_lo0 : ∀ sp, (slices_IndexFunc_Txn_ReadyDanger_2_1_loops 0) = some sp → LoopOk G63 ⟨2, 19, slices_IndexFunc_Txn_ReadyDanger_2_1_loops⟩ sp (loopBody Try.f81 0) := by
  intro sp hsp vals st k r h
  cases hsp
  dsimp only at h
  rcases onPats_inv2 h with ⟨p, q, rfl, rfl, h⟩ | h
  · exact loop_runs2 slices_IndexFunc_Txn_ReadyDanger_2_1_bp0 slices_IndexFunc_Txn_ReadyDanger_2_1_v0 slices_IndexFunc_Txn_ReadyDanger_2_1_s0 slices_IndexFunc_Txn_ReadyDanger_2_1_e0 (fun z => by rcases z with z | z <;> (intro h; cases h)) slices_IndexFunc_Txn_ReadyDanger_2_1_bx0 Fuel (p.1, p.2.2.1, p.2.2.2.1, p.2.2.2.2.1, q.1.1, q.1.2.1, q.1.2.2.1, q.1.2.2.2.1, q.1.2.2.2.2.1, q.1.2.2.2.2.2.1, q.1.2.2.2.2.2.2.1, q.1.2.2.2.2.2.2.2.1, q.2.1.1, q.2.1.2.1, q.2.1.2.2.1, q.2.1.2.2.2.1, q.2.1.2.2.2.2.1, q.2.1.2.2.2.2.2.1, q.2.1.2.2.2.2.2.2.1, q.2.1.2.2.2.2.2.2.2.1) _ k r (fun z => by rcases z with z | z <;> rfl) h
  cases h

theorem slices_IndexFunc_Txn_ReadyDanger_2_1_y (a0 : (List dTxn)) (a1 : Int) (a2 : Int) (a3 : Int) (a4 : Int) (a5 : (List dRange)) (a6 : (List dWrite)) (a7 : Bool) (a8 : ByteArray) (a9 : Int) (a10 : Int) (a11 : Int) (a12 : Int) (a13 : (List dRange)) (a14 : (List dWrite)) (a15 : Bool) (a16 : ByteArray) : execFn G63 slices_IndexFunc_Txn_ReadyDanger_2_1_loops Try.f81 [.lst tTxn a0, .fn 113 [.bp 0 0, .bp 1 0]] [.box [.int .i64 a1, .int .i64 a2, .int .i64 a3, .int .i64 a4, .lst tRange a5, .lst tWrite a6, .bool a7, .str a8], .box [.int .i64 a9, .int .i64 a10, .int .i64 a11, .int .i64 a12, .lst tRange a13, .lst tWrite a14, .bool a15, .str a16]] = slices_IndexFunc_Txn_ReadyDanger_2_1_k a0 a1 a2 a3 a4 a5 a6 a7 a8 a9 a10 a11 a12 a13 a14 a15 a16 (fun (y : q41T) => some ⟨.ret, [.int .i64 y.1], [.box [.int .i64 y.2.1, .int .i64 y.2.2.1, .int .i64 y.2.2.2.1, .int .i64 y.2.2.2.2.1, .lst tRange y.2.2.2.2.2.1, .lst tWrite y.2.2.2.2.2.2.1, .bool y.2.2.2.2.2.2.2.1, .str y.2.2.2.2.2.2.2.2.1], .box [.int .i64 y.2.2.2.2.2.2.2.2.2.1, .int .i64 y.2.2.2.2.2.2.2.2.2.2.1, .int .i64 y.2.2.2.2.2.2.2.2.2.2.2.1, .int .i64 y.2.2.2.2.2.2.2.2.2.2.2.2.1, .lst tRange y.2.2.2.2.2.2.2.2.2.2.2.2.2.1, .lst tWrite y.2.2.2.2.2.2.2.2.2.2.2.2.2.2.1, .bool y.2.2.2.2.2.2.2.2.2.2.2.2.2.2.2.1, .str y.2.2.2.2.2.2.2.2.2.2.2.2.2.2.2.2]]⟩) := by rw [slices_IndexFunc_Txn_ReadyDanger_2_1_e]; kernel_rfl

theorem slices_IndexFunc_Txn_ReadyDanger_2_1_l : LoopsOk G63 ⟨2, 19, slices_IndexFunc_Txn_ReadyDanger_2_1_loops⟩ (Try.f81.body.getD .skip) :=
  loopsOk_of (ids := [0]) (by kernel_rfl) (by kernel_rfl) ⟨slices_IndexFunc_Txn_ReadyDanger_2_1_lo0, trivial⟩

theorem slices_IndexFunc_Txn_c7 : Contract Try.prog 81 slices_IndexFunc_Txn_g7 := by
  refine told2 G63_ok follows Try.func81 (c := Try.f81.body.getD .skip) (by kernel_rfl) slices_IndexFunc_Txn_c6 ?_
  intro args s k r hk
  unfold slices_IndexFunc_Txn_g7 at hk
  rcases onPats_inv hk with ⟨p, q, rfl, rfl⟩ | hk
  · exact .inl ⟨slices_IndexFunc_Txn_ReadyDanger_2_1_loops, slices_IndexFunc_Txn_ReadyDanger_2_1_q p.1 q.1.1 q.1.2.1 q.1.2.2.1 q.1.2.2.2.1 q.1.2.2.2.2.1 q.1.2.2.2.2.2.1 q.1.2.2.2.2.2.2.1 q.1.2.2.2.2.2.2.2.1 q.2.1.1 q.2.1.2.1 q.2.1.2.2.1 q.2.1.2.2.2.1 q.2.1.2.2.2.2.1 q.2.1.2.2.2.2.2.1 q.2.1.2.2.2.2.2.2.1 q.2.1.2.2.2.2.2.2.2.1, slices_IndexFunc_Txn_ReadyDanger_2_1_y p.1 q.1.1 q.1.2.1 q.1.2.2.1 q.1.2.2.2.1 q.1.2.2.2.2.1 q.1.2.2.2.2.2.1 q.1.2.2.2.2.2.2.1 q.1.2.2.2.2.2.2.2.1 q.2.1.1 q.2.1.2.1 q.2.1.2.2.1 q.2.1.2.2.2.1 q.2.1.2.2.2.2.1 q.2.1.2.2.2.2.2.1 q.2.1.2.2.2.2.2.2.1 q.2.1.2.2.2.2.2.2.2.1, slices_IndexFunc_Txn_ReadyDanger_2_1_l⟩
  exact .inr hk

def G64 : Glob := G63.add 81 slices_IndexFunc_Txn_g7

theorem G64_ok : GlobOk Try.prog G64 := G63_ok.add ⟨Try.f81, Try.func81, by kernel_rfl, by kernel_rfl⟩ slices_IndexFunc_Txn_c7



def slices_ContainsFunc_Txn_ReadyDanger_2_1_loops : Nat → Option LoopSpec
  | _ => none

theorem slices_ContainsFunc_Txn_ReadyDanger_2_1_y (a0 : (List dTxn)) (a1 : Int) (a2 : Int) (a3 : Int) (a4 : Int) (a5 : (List dRange)) (a6 : (List dWrite)) (a7 : Bool) (a8 : ByteArray) (a9 : Int) (a10 : Int) (a11 : Int) (a12 : Int) (a13 : (List dRange)) (a14 : (List dWrite)) (a15 : Bool) (a16 : ByteArray) : execFn G64 slices_ContainsFunc_Txn_ReadyDanger_2_1_loops Try.f178 [.lst tTxn a0, .fn 113 [.bp 0 0, .bp 1 0]] [.box [.int .i64 a1, .int .i64 a2, .int .i64 a3, .int .i64 a4, .lst tRange a5, .lst tWrite a6, .bool a7, .str a8], .box [.int .i64 a9, .int .i64 a10, .int .i64 a11, .int .i64 a12, .lst tRange a13, .lst tWrite a14, .bool a15, .str a16]] = slices_ContainsFunc_Txn_ReadyDanger_2_1_k a0 a1 a2 a3 a4 a5 a6 a7 a8 a9 a10 a11 a12 a13 a14 a15 a16 (fun (y : q28T) => some ⟨.ret, [.bool y.1], [.box [.int .i64 y.2.1, .int .i64 y.2.2.1, .int .i64 y.2.2.2.1, .int .i64 y.2.2.2.2.1, .lst tRange y.2.2.2.2.2.1, .lst tWrite y.2.2.2.2.2.2.1, .bool y.2.2.2.2.2.2.2.1, .str y.2.2.2.2.2.2.2.2.1], .box [.int .i64 y.2.2.2.2.2.2.2.2.2.1, .int .i64 y.2.2.2.2.2.2.2.2.2.2.1, .int .i64 y.2.2.2.2.2.2.2.2.2.2.2.1, .int .i64 y.2.2.2.2.2.2.2.2.2.2.2.2.1, .lst tRange y.2.2.2.2.2.2.2.2.2.2.2.2.2.1, .lst tWrite y.2.2.2.2.2.2.2.2.2.2.2.2.2.2.1, .bool y.2.2.2.2.2.2.2.2.2.2.2.2.2.2.2.1, .str y.2.2.2.2.2.2.2.2.2.2.2.2.2.2.2.2]]⟩) := by rw [slices_ContainsFunc_Txn_ReadyDanger_2_1_e]; kernel_rfl

theorem slices_ContainsFunc_Txn_ReadyDanger_2_1_l : LoopsOk G64 ⟨2, 9, slices_ContainsFunc_Txn_ReadyDanger_2_1_loops⟩ (Try.f178.body.getD .skip) :=
  loopsOk_of (ids := []) (by kernel_rfl) (by kernel_rfl) trivial

theorem slices_ContainsFunc_Txn_c7 : Contract Try.prog 178 slices_ContainsFunc_Txn_g7 := by
  refine told2 G64_ok follows Try.func178 (c := Try.f178.body.getD .skip) (by kernel_rfl) slices_ContainsFunc_Txn_c6 ?_
  intro args s k r hk
  unfold slices_ContainsFunc_Txn_g7 at hk
  rcases onPats_inv hk with ⟨p, q, rfl, rfl⟩ | hk
  · exact .inl ⟨slices_ContainsFunc_Txn_ReadyDanger_2_1_loops, slices_ContainsFunc_Txn_ReadyDanger_2_1_q p.1 q.1.1 q.1.2.1 q.1.2.2.1 q.1.2.2.2.1 q.1.2.2.2.2.1 q.1.2.2.2.2.2.1 q.1.2.2.2.2.2.2.1 q.1.2.2.2.2.2.2.2.1 q.2.1.1 q.2.1.2.1 q.2.1.2.2.1 q.2.1.2.2.2.1 q.2.1.2.2.2.2.1 q.2.1.2.2.2.2.2.1 q.2.1.2.2.2.2.2.2.1 q.2.1.2.2.2.2.2.2.2.1, slices_ContainsFunc_Txn_ReadyDanger_2_1_y p.1 q.1.1 q.1.2.1 q.1.2.2.1 q.1.2.2.2.1 q.1.2.2.2.2.1 q.1.2.2.2.2.2.1 q.1.2.2.2.2.2.2.1 q.1.2.2.2.2.2.2.2.1 q.2.1.1 q.2.1.2.1 q.2.1.2.2.1 q.2.1.2.2.2.1 q.2.1.2.2.2.2.1 q.2.1.2.2.2.2.2.1 q.2.1.2.2.2.2.2.2.1 q.2.1.2.2.2.2.2.2.2.1, slices_ContainsFunc_Txn_ReadyDanger_2_1_l⟩
  exact .inr hk

def G65 : Glob := G64.add 178 slices_ContainsFunc_Txn_g7

theorem G65_ok : GlobOk Try.prog G65 := G64_ok.add ⟨Try.f178, Try.func178, by kernel_rfl, by kernel_rfl⟩ slices_ContainsFunc_Txn_c7



def impl_some_ReadyDanger_2_1_loops : Nat → Option LoopSpec
  | _ => none

theorem impl_some_ReadyDanger_2_1_y (a0 : (List dTxn)) (a1 : Int) (a2 : Int) (a3 : Int) (a4 : Int) (a5 : (List dRange)) (a6 : (List dWrite)) (a7 : Bool) (a8 : ByteArray) (a9 : Int) (a10 : Int) (a11 : Int) (a12 : Int) (a13 : (List dRange)) (a14 : (List dWrite)) (a15 : Bool) (a16 : ByteArray) : execFn G65 impl_some_ReadyDanger_2_1_loops Try.f100 [.lst tTxn a0, .fn 113 [.bp 0 0, .bp 1 0]] [.box [.int .i64 a1, .int .i64 a2, .int .i64 a3, .int .i64 a4, .lst tRange a5, .lst tWrite a6, .bool a7, .str a8], .box [.int .i64 a9, .int .i64 a10, .int .i64 a11, .int .i64 a12, .lst tRange a13, .lst tWrite a14, .bool a15, .str a16]] = impl_some_ReadyDanger_2_1_k a0 a1 a2 a3 a4 a5 a6 a7 a8 a9 a10 a11 a12 a13 a14 a15 a16 (fun (y : q28T) => some ⟨.ret, [.bool y.1], [.box [.int .i64 y.2.1, .int .i64 y.2.2.1, .int .i64 y.2.2.2.1, .int .i64 y.2.2.2.2.1, .lst tRange y.2.2.2.2.2.1, .lst tWrite y.2.2.2.2.2.2.1, .bool y.2.2.2.2.2.2.2.1, .str y.2.2.2.2.2.2.2.2.1], .box [.int .i64 y.2.2.2.2.2.2.2.2.2.1, .int .i64 y.2.2.2.2.2.2.2.2.2.2.1, .int .i64 y.2.2.2.2.2.2.2.2.2.2.2.1, .int .i64 y.2.2.2.2.2.2.2.2.2.2.2.2.1, .lst tRange y.2.2.2.2.2.2.2.2.2.2.2.2.2.1, .lst tWrite y.2.2.2.2.2.2.2.2.2.2.2.2.2.2.1, .bool y.2.2.2.2.2.2.2.2.2.2.2.2.2.2.2.1, .str y.2.2.2.2.2.2.2.2.2.2.2.2.2.2.2.2]]⟩) := by rw [impl_some_ReadyDanger_2_1_e]; kernel_rfl

theorem impl_some_ReadyDanger_2_1_l : LoopsOk G65 ⟨2, 8, impl_some_ReadyDanger_2_1_loops⟩ (Try.f100.body.getD .skip) :=
  loopsOk_of (ids := []) (by kernel_rfl) (by kernel_rfl) trivial

theorem impl_some_c7 : Contract Try.prog 100 impl_some_g7 := by
  refine told2 G65_ok follows Try.func100 (c := Try.f100.body.getD .skip) (by kernel_rfl) impl_some_c6 ?_
  intro args s k r hk
  unfold impl_some_g7 at hk
  rcases onPats_inv hk with ⟨p, q, rfl, rfl⟩ | hk
  · exact .inl ⟨impl_some_ReadyDanger_2_1_loops, impl_some_ReadyDanger_2_1_q p.1 q.1.1 q.1.2.1 q.1.2.2.1 q.1.2.2.2.1 q.1.2.2.2.2.1 q.1.2.2.2.2.2.1 q.1.2.2.2.2.2.2.1 q.1.2.2.2.2.2.2.2.1 q.2.1.1 q.2.1.2.1 q.2.1.2.2.1 q.2.1.2.2.2.1 q.2.1.2.2.2.2.1 q.2.1.2.2.2.2.2.1 q.2.1.2.2.2.2.2.2.1 q.2.1.2.2.2.2.2.2.2.1, impl_some_ReadyDanger_2_1_y p.1 q.1.1 q.1.2.1 q.1.2.2.1 q.1.2.2.2.1 q.1.2.2.2.2.1 q.1.2.2.2.2.2.1 q.1.2.2.2.2.2.2.1 q.1.2.2.2.2.2.2.2.1 q.2.1.1 q.2.1.2.1 q.2.1.2.2.1 q.2.1.2.2.2.1 q.2.1.2.2.2.2.1 q.2.1.2.2.2.2.2.1 q.2.1.2.2.2.2.2.2.1 q.2.1.2.2.2.2.2.2.2.1, impl_some_ReadyDanger_2_1_l⟩
  exact .inr hk

def G66 : Glob := G65.add 100 impl_some_g7

theorem G66_ok : GlobOk Try.prog G66 := G65_ok.add ⟨Try.f100, Try.func100, by kernel_rfl, by kernel_rfl⟩ impl_some_c7



def impl_ReadyDanger_2_loops : Nat → Option LoopSpec
  | _ => none

theorem impl_ReadyDanger_2_y (a0 : Int) (a1 : Int) (a2 : Int) (a3 : Int) (a4 : (List dRange)) (a5 : (List dWrite)) (a6 : Bool) (a7 : ByteArray) (a8 : (List dTxn)) (a9 : Int) (a10 : Int) (a11 : Int) (a12 : Int) (a13 : (List dRange)) (a14 : (List dWrite)) (a15 : Bool) (a16 : ByteArray) : execFn G66 impl_ReadyDanger_2_loops Try.f112 [.agg [.int .i64 a0, .int .i64 a1, .int .i64 a2, .int .i64 a3, .lst tRange a4, .lst tWrite a5, .bool a6, .str a7], .bp 0 0, .bp 1 0, .bp 2 0] [.box [.fn 111 [.bp 2 0]], .box [.lst tTxn a8], .box [.int .i64 a9, .int .i64 a10, .int .i64 a11, .int .i64 a12, .lst tRange a13, .lst tWrite a14, .bool a15, .str a16]] = impl_ReadyDanger_2_k (a0, (a1, (a2, (a3, (a4, (a5, (a6, a7))))))) a8 a9 a10 a11 a12 a13 a14 a15 a16 (fun (y : q24T) => some ⟨.ret, [.bool y.1], [.box [.fn 111 [.bp 2 0]], .box [.lst tTxn y.2.1], .box [.int .i64 y.2.2.1, .int .i64 y.2.2.2.1, .int .i64 y.2.2.2.2.1, .int .i64 y.2.2.2.2.2.1, .lst tRange y.2.2.2.2.2.2.1, .lst tWrite y.2.2.2.2.2.2.2.1, .bool y.2.2.2.2.2.2.2.2.1, .str y.2.2.2.2.2.2.2.2.2]]⟩) := by rw [impl_ReadyDanger_2_e]; kernel_rfl

theorem impl_ReadyDanger_2_l : LoopsOk G66 ⟨3, 14, impl_ReadyDanger_2_loops⟩ (Try.f112.body.getD .skip) :=
  loopsOk_of (ids := []) (by kernel_rfl) (by kernel_rfl) trivial

theorem impl_ReadyDanger_2_c : Contract Try.prog 112 impl_ReadyDanger_2_g := by
  refine told G66_ok follows Try.func112 (c := Try.f112.body.getD .skip) (by kernel_rfl) ?_
  intro args s k r hk
  unfold impl_ReadyDanger_2_g at hk
  rcases onPats_inv hk with ⟨p, q, rfl, rfl⟩ | hk
  · exact ⟨impl_ReadyDanger_2_loops, impl_ReadyDanger_2_q p.1.1 p.1.2.1 p.1.2.2.1 p.1.2.2.2.1 p.1.2.2.2.2.1 p.1.2.2.2.2.2.1 p.1.2.2.2.2.2.2.1 p.1.2.2.2.2.2.2.2.1 q.2.1.1 q.2.2.1.1 q.2.2.1.2.1 q.2.2.1.2.2.1 q.2.2.1.2.2.2.1 q.2.2.1.2.2.2.2.1 q.2.2.1.2.2.2.2.2.1 q.2.2.1.2.2.2.2.2.2.1 q.2.2.1.2.2.2.2.2.2.2.1, impl_ReadyDanger_2_y p.1.1 p.1.2.1 p.1.2.2.1 p.1.2.2.2.1 p.1.2.2.2.2.1 p.1.2.2.2.2.2.1 p.1.2.2.2.2.2.2.1 p.1.2.2.2.2.2.2.2.1 q.2.1.1 q.2.2.1.1 q.2.2.1.2.1 q.2.2.1.2.2.1 q.2.2.1.2.2.2.1 q.2.2.1.2.2.2.2.1 q.2.2.1.2.2.2.2.2.1 q.2.2.1.2.2.2.2.2.2.1 q.2.2.1.2.2.2.2.2.2.2.1, impl_ReadyDanger_2_l⟩
  cases hk

def G67 : Glob := G66.add 112 impl_ReadyDanger_2_g

theorem G67_ok : GlobOk Try.prog G67 := G66_ok.add ⟨Try.f112, Try.func112, by kernel_rfl, by kernel_rfl⟩ impl_ReadyDanger_2_c



def slices_IndexFunc_Txn_ReadyDanger_2_loops : Nat → Option LoopSpec
  | 0 => some ⟨[0, 1, 4, 7, 8], [], fun vals st k => onPats [.lst tTxn, .fn 112 [.bp 0 0, .bp 1 0, .bp 2 0], .int .i64, .int .i64, .int .i64] [.box [.fn 111 [.bp 2 0]], .box [.lst tTxn], .box [.int .i64, .int .i64, .int .i64, .int .i64, .lst tRange, .lst tWrite, .bool, .str]] vals st (fun p q => loopK slices_IndexFunc_Txn_ReadyDanger_2_b0 Fuel (p.1, p.2.2.1, p.2.2.2.1, p.2.2.2.2.1, q.2.1.1, q.2.2.1.1, q.2.2.1.2.1, q.2.2.1.2.2.1, q.2.2.1.2.2.2.1, q.2.2.1.2.2.2.2.1, q.2.2.1.2.2.2.2.2.1, q.2.2.1.2.2.2.2.2.2.1, q.2.2.1.2.2.2.2.2.2.2.1) (Sum.elim (fun z => k .ret [.lst tTxn z.1, .fn 112 [.bp 0 0, .bp 1 0, .bp 2 0], .int .i64 z.2.1, .int .i64 z.2.2.1, .int .i64 z.2.2.2.1] [.box [.fn 111 [.bp 2 0]], .box [.lst tTxn z.2.2.2.2.1], .box [.int .i64 z.2.2.2.2.2.1, .int .i64 z.2.2.2.2.2.2.1, .int .i64 z.2.2.2.2.2.2.2.1, .int .i64 z.2.2.2.2.2.2.2.2.1, .lst tRange z.2.2.2.2.2.2.2.2.2.1, .lst tWrite z.2.2.2.2.2.2.2.2.2.2.1, .bool z.2.2.2.2.2.2.2.2.2.2.2.1, .str z.2.2.2.2.2.2.2.2.2.2.2.2]]) (fun z => k (.exit 0) [.lst tTxn z.1, .fn 112 [.bp 0 0, .bp 1 0, .bp 2 0], .int .i64 z.2.1, .int .i64 z.2.2.1, .int .i64 z.2.2.2.1] [.box [.fn 111 [.bp 2 0]], .box [.lst tTxn z.2.2.2.2.1], .box [.int .i64 z.2.2.2.2.2.1, .int .i64 z.2.2.2.2.2.2.1, .int .i64 z.2.2.2.2.2.2.2.1, .int .i64 z.2.2.2.2.2.2.2.2.1, .lst tRange z.2.2.2.2.2.2.2.2.2.1, .lst tWrite z.2.2.2.2.2.2.2.2.2.2.1, .bool z.2.2.2.2.2.2.2.2.2.2.2.1, .str z.2.2.2.2.2.2.2.2.2.2.2.2]])))
      (none)⟩
  | _ => none

def slices_IndexFunc_Txn_ReadyDanger_2_v0 : q12T → List AV := (fun x => [.lst tTxn x.1, .fn 112 [.bp 0 0, .bp 1 0, .bp 2 0], .int .i64 x.2.1, .int .i64 x.2.2.1, .int .i64 x.2.2.2.1])
def slices_IndexFunc_Txn_ReadyDanger_2_s0 : q12T → St := (fun x => [.box [.fn 111 [.bp 2 0]], .box [.lst tTxn x.2.2.2.2.1], .box [.int .i64 x.2.2.2.2.2.1, .int .i64 x.2.2.2.2.2.2.1, .int .i64 x.2.2.2.2.2.2.2.1, .int .i64 x.2.2.2.2.2.2.2.2.1, .lst tRange x.2.2.2.2.2.2.2.2.2.1, .lst tWrite x.2.2.2.2.2.2.2.2.2.2.1, .bool x.2.2.2.2.2.2.2.2.2.2.2.1, .str x.2.2.2.2.2.2.2.2.2.2.2.2]])
def slices_IndexFunc_Txn_ReadyDanger_2_e0 : (q12T ⊕ q12T) → Out × List AV × St := (Sum.elim (fun z => (.ret, [.lst tTxn z.1, .fn 112 [.bp 0 0, .bp 1 0, .bp 2 0], .int .i64 z.2.1, .int .i64 z.2.2.1, .int .i64 z.2.2.2.1], [.box [.fn 111 [.bp 2 0]], .box [.lst tTxn z.2.2.2.2.1], .box [.int .i64 z.2.2.2.2.2.1, .int .i64 z.2.2.2.2.2.2.1, .int .i64 z.2.2.2.2.2.2.2.1, .int .i64 z.2.2.2.2.2.2.2.2.1, .lst tRange z.2.2.2.2.2.2.2.2.2.1, .lst tWrite z.2.2.2.2.2.2.2.2.2.2.1, .bool z.2.2.2.2.2.2.2.2.2.2.2.1, .str z.2.2.2.2.2.2.2.2.2.2.2.2]])) (fun z => ((.exit 0), [.lst tTxn z.1, .fn 112 [.bp 0 0, .bp 1 0, .bp 2 0], .int .i64 z.2.1, .int .i64 z.2.2.1, .int .i64 z.2.2.2.1], [.box [.fn 111 [.bp 2 0]], .box [.lst tTxn z.2.2.2.2.1], .box [.int .i64 z.2.2.2.2.2.1, .int .i64 z.2.2.2.2.2.2.1, .int .i64 z.2.2.2.2.2.2.2.1, .int .i64 z.2.2.2.2.2.2.2.2.1, .lst tRange z.2.2.2.2.2.2.2.2.2.1, .lst tWrite z.2.2.2.2.2.2.2.2.2.2.1, .bool z.2.2.2.2.2.2.2.2.2.2.2.1, .str z.2.2.2.2.2.2.2.2.2.2.2.2]])))

theorem slices_IndexFunc_Txn_ReadyDanger_2_bx0 (x : q12T) : exec G67 ⟨3, 19, slices_IndexFunc_Txn_ReadyDanger_2_loops⟩ (loopBody Try.f81 0) (bodyK ⟨3, 19, slices_IndexFunc_Txn_ReadyDanger_2_loops⟩ [0, 1, 4, 7, 8] []) (setEs (deads 19) [0, 1, 4, 7, 8] (slices_IndexFunc_Txn_ReadyDanger_2_v0 x)) (slices_IndexFunc_Txn_ReadyDanger_2_s0 x) = slices_IndexFunc_Txn_ReadyDanger_2_b0 x (Sum.elim (fun y => some ⟨.norm, slices_IndexFunc_Txn_ReadyDanger_2_v0 y, slices_IndexFunc_Txn_ReadyDanger_2_s0 y⟩) fun z => some ⟨(slices_IndexFunc_Txn_ReadyDanger_2_e0 z).1, (slices_IndexFunc_Txn_ReadyDanger_2_e0 z).2.1, (slices_IndexFunc_Txn_ReadyDanger_2_e0 z).2.2⟩) := by
  kernel_rfl

theorem slices_IndexFunc_Txn_ReadyDanger_2_lo0 : ∀ sp, (slices_IndexFunc_Txn_ReadyDanger_2_loops 0) = some sp → LoopOk G67 ⟨3, 19, slices_IndexFunc_Txn_ReadyDanger_2_loops⟩ sp (loopBody Try.f81 0) := by
  intro sp hsp vals st k r h
  cases hsp
  dsimp only at h
  rcases onPats_inv2 h with ⟨p, q, rfl, rfl, h⟩ | h
  · exact loop_runs2 slices_IndexFunc_Txn_ReadyDanger_2_bp0 slices_IndexFunc_Txn_ReadyDanger_2_v0 slices_IndexFunc_Txn_ReadyDanger_2_s0 slices_IndexFunc_Txn_ReadyDanger_2_e0 (fun z => by rcases z with z | z <;> (intro h; cases h)) slices_IndexFunc_Txn_ReadyDanger_2_bx0 Fuel (p.1, p.2.2.1, p.2.2.2.1, p.2.2.2.2.1, q.2.1.1, q.2.2.1.1, q.2.2.1.2.1, q.2.2.1.2.2.1, q.2.2.1.2.2.2.1, q.2.2.1.2.2.2.2.1, q.2.2.1.2.2.2.2.2.1, q.2.2.1.2.2.2.2.2.2.1, q.2.2.1.2.2.2.2.2.2.2.1) _ k r (fun z => by rcases z with z | z <;> rfl) h
  cases h

theorem slices_IndexFunc_Txn_ReadyDanger_2_y (a0 : (List dTxn)) (a1 : (List dTxn)) (a2 : Int) (a3 : Int) (a4 : Int) (a5 : Int) (a6 : (List dRange)) (a7 : (List dWrite)) (a8 : Bool) (a9 : ByteArray) : execFn G67 slices_IndexFunc_Txn_ReadyDanger_2_loops Try.f81 [.lst tTxn a0, .fn 112 [.bp 0 0, .bp 1 0, .bp 2 0]] [.box [.fn 111 [.bp 2 0]], .box [.lst tTxn a1], .box [.int .i64 a2, .int .i64 a3, .int .i64 a4, .int .i64 a5, .lst tRange a6, .lst tWrite a7, .bool a8, .str a9]] = slices_IndexFunc_Txn_ReadyDanger_2_k a0 a1 a2 a3 a4 a5 a6 a7 a8 a9 (fun (y : q36T) => some ⟨.ret, [.int .i64 y.1], [.box [.fn 111 [.bp 2 0]], .box [.lst tTxn y.2.1], .box [.int .i64 y.2.2.1, .int .i64 y.2.2.2.1, .int .i64 y.2.2.2.2.1, .int .i64 y.2.2.2.2.2.1, .lst tRange y.2.2.2.2.2.2.1, .lst tWrite y.2.2.2.2.2.2.2.1, .bool y.2.2.2.2.2.2.2.2.1, .str y.2.2.2.2.2.2.2.2.2]]⟩) := by rw [slices_IndexFunc_Txn_ReadyDanger_2_e]; kernel_rfl

theorem slices_IndexFunc_Txn_ReadyDanger_2_l : LoopsOk G67 ⟨3, 19, slices_IndexFunc_Txn_ReadyDanger_2_loops⟩ (Try.f81.body.getD .skip) :=
  loopsOk_of (ids := [0]) (by kernel_rfl) (by kernel_rfl) ⟨slices_IndexFunc_Txn_ReadyDanger_2_lo0, trivial⟩

theorem slices_IndexFunc_Txn_c8 : Contract Try.prog 81 slices_IndexFunc_Txn_g8 := by
  refine told2 G67_ok follows Try.func81 (c := Try.f81.body.getD .skip) (by kernel_rfl) slices_IndexFunc_Txn_c7 ?_
  intro args s k r hk
  unfold slices_IndexFunc_Txn_g8 at hk
  rcases onPats_inv hk with ⟨p, q, rfl, rfl⟩ | hk
  · exact .inl ⟨slices_IndexFunc_Txn_ReadyDanger_2_loops, slices_IndexFunc_Txn_ReadyDanger_2_q p.1 q.2.1.1 q.2.2.1.1 q.2.2.1.2.1 q.2.2.1.2.2.1 q.2.2.1.2.2.2.1 q.2.2.1.2.2.2.2.1 q.2.2.1.2.2.2.2.2.1 q.2.2.1.2.2.2.2.2.2.1 q.2.2.1.2.2.2.2.2.2.2.1, slices_IndexFunc_Txn_ReadyDanger_2_y p.1 q.2.1.1 q.2.2.1.1 q.2.2.1.2.1 q.2.2.1.2.2.1 q.2.2.1.2.2.2.1 q.2.2.1.2.2.2.2.1 q.2.2.1.2.2.2.2.2.1 q.2.2.1.2.2.2.2.2.2.1 q.2.2.1.2.2.2.2.2.2.2.1, slices_IndexFunc_Txn_ReadyDanger_2_l⟩
  exact .inr hk

def G68 : Glob := G67.add 81 slices_IndexFunc_Txn_g8

theorem G68_ok : GlobOk Try.prog G68 := G67_ok.add ⟨Try.f81, Try.func81, by kernel_rfl, by kernel_rfl⟩ slices_IndexFunc_Txn_c8



def slices_ContainsFunc_Txn_ReadyDanger_2_loops : Nat → Option LoopSpec
  | _ => none

theorem slices_ContainsFunc_Txn_ReadyDanger_2_y (a0 : (List dTxn)) (a1 : (List dTxn)) (a2 : Int) (a3 : Int) (a4 : Int) (a5 : Int) (a6 : (List dRange)) (a7 : (List dWrite)) (a8 : Bool) (a9 : ByteArray) : execFn G68 slices_ContainsFunc_Txn_ReadyDanger_2_loops Try.f178 [.lst tTxn a0, .fn 112 [.bp 0 0, .bp 1 0, .bp 2 0]] [.box [.fn 111 [.bp 2 0]], .box [.lst tTxn a1], .box [.int .i64 a2, .int .i64 a3, .int .i64 a4, .int .i64 a5, .lst tRange a6, .lst tWrite a7, .bool a8, .str a9]] = slices_ContainsFunc_Txn_ReadyDanger_2_k a0 a1 a2 a3 a4 a5 a6 a7 a8 a9 (fun (y : q24T) => some ⟨.ret, [.bool y.1], [.box [.fn 111 [.bp 2 0]], .box [.lst tTxn y.2.1], .box [.int .i64 y.2.2.1, .int .i64 y.2.2.2.1, .int .i64 y.2.2.2.2.1, .int .i64 y.2.2.2.2.2.1, .lst tRange y.2.2.2.2.2.2.1, .lst tWrite y.2.2.2.2.2.2.2.1, .bool y.2.2.2.2.2.2.2.2.1, .str y.2.2.2.2.2.2.2.2.2]]⟩) := by rw [slices_ContainsFunc_Txn_ReadyDanger_2_e]; kernel_rfl

theorem slices_ContainsFunc_Txn_ReadyDanger_2_l : LoopsOk G68 ⟨3, 9, slices_ContainsFunc_Txn_ReadyDanger_2_loops⟩ (Try.f178.body.getD .skip) :=
  loopsOk_of (ids := []) (by kernel_rfl) (by kernel_rfl) trivial

theorem slices_ContainsFunc_Txn_c8 : Contract Try.prog 178 slices_ContainsFunc_Txn_g8 := by
  refine told2 G68_ok follows Try.func178 (c := Try.f178.body.getD .skip) (by kernel_rfl) slices_ContainsFunc_Txn_c7 ?_
  intro args s k r hk
  unfold slices_ContainsFunc_Txn_g8 at hk
  rcases onPats_inv hk with ⟨p, q, rfl, rfl⟩ | hk
  · exact .inl ⟨slices_ContainsFunc_Txn_ReadyDanger_2_loops, slices_ContainsFunc_Txn_ReadyDanger_2_q p.1 q.2.1.1 q.2.2.1.1 q.2.2.1.2.1 q.2.2.1.2.2.1 q.2.2.1.2.2.2.1 q.2.2.1.2.2.2.2.1 q.2.2.1.2.2.2.2.2.1 q.2.2.1.2.2.2.2.2.2.1 q.2.2.1.2.2.2.2.2.2.2.1, slices_ContainsFunc_Txn_ReadyDanger_2_y p.1 q.2.1.1 q.2.2.1.1 q.2.2.1.2.1 q.2.2.1.2.2.1 q.2.2.1.2.2.2.1 q.2.2.1.2.2.2.2.1 q.2.2.1.2.2.2.2.2.1 q.2.2.1.2.2.2.2.2.2.1 q.2.2.1.2.2.2.2.2.2.2.1, slices_ContainsFunc_Txn_ReadyDanger_2_l⟩
  exact .inr hk

def G69 : Glob := G68.add 178 slices_ContainsFunc_Txn_g8

theorem G69_ok : GlobOk Try.prog G69 := G68_ok.add ⟨Try.f178, Try.func178, by kernel_rfl, by kernel_rfl⟩ slices_ContainsFunc_Txn_c8



def impl_some_ReadyDanger_2_loops : Nat → Option LoopSpec
  | _ => none

theorem impl_some_ReadyDanger_2_y (a0 : (List dTxn)) (a1 : (List dTxn)) (a2 : Int) (a3 : Int) (a4 : Int) (a5 : Int) (a6 : (List dRange)) (a7 : (List dWrite)) (a8 : Bool) (a9 : ByteArray) : execFn G69 impl_some_ReadyDanger_2_loops Try.f100 [.lst tTxn a0, .fn 112 [.bp 0 0, .bp 1 0, .bp 2 0]] [.box [.fn 111 [.bp 2 0]], .box [.lst tTxn a1], .box [.int .i64 a2, .int .i64 a3, .int .i64 a4, .int .i64 a5, .lst tRange a6, .lst tWrite a7, .bool a8, .str a9]] = impl_some_ReadyDanger_2_k a0 a1 a2 a3 a4 a5 a6 a7 a8 a9 (fun (y : q24T) => some ⟨.ret, [.bool y.1], [.box [.fn 111 [.bp 2 0]], .box [.lst tTxn y.2.1], .box [.int .i64 y.2.2.1, .int .i64 y.2.2.2.1, .int .i64 y.2.2.2.2.1, .int .i64 y.2.2.2.2.2.1, .lst tRange y.2.2.2.2.2.2.1, .lst tWrite y.2.2.2.2.2.2.2.1, .bool y.2.2.2.2.2.2.2.2.1, .str y.2.2.2.2.2.2.2.2.2]]⟩) := by rw [impl_some_ReadyDanger_2_e]; kernel_rfl

theorem impl_some_ReadyDanger_2_l : LoopsOk G69 ⟨3, 8, impl_some_ReadyDanger_2_loops⟩ (Try.f100.body.getD .skip) :=
  loopsOk_of (ids := []) (by kernel_rfl) (by kernel_rfl) trivial

theorem impl_some_c8 : Contract Try.prog 100 impl_some_g8 := by
  refine told2 G69_ok follows Try.func100 (c := Try.f100.body.getD .skip) (by kernel_rfl) impl_some_c7 ?_
  intro args s k r hk
  unfold impl_some_g8 at hk
  rcases onPats_inv hk with ⟨p, q, rfl, rfl⟩ | hk
  · exact .inl ⟨impl_some_ReadyDanger_2_loops, impl_some_ReadyDanger_2_q p.1 q.2.1.1 q.2.2.1.1 q.2.2.1.2.1 q.2.2.1.2.2.1 q.2.2.1.2.2.2.1 q.2.2.1.2.2.2.2.1 q.2.2.1.2.2.2.2.2.1 q.2.2.1.2.2.2.2.2.2.1 q.2.2.1.2.2.2.2.2.2.2.1, impl_some_ReadyDanger_2_y p.1 q.2.1.1 q.2.2.1.1 q.2.2.1.2.1 q.2.2.1.2.2.1 q.2.2.1.2.2.2.1 q.2.2.1.2.2.2.2.1 q.2.2.1.2.2.2.2.2.1 q.2.2.1.2.2.2.2.2.2.1 q.2.2.1.2.2.2.2.2.2.2.1, impl_some_ReadyDanger_2_l⟩
  exact .inr hk

def G70 : Glob := G69.add 100 impl_some_g8

theorem G70_ok : GlobOk Try.prog G70 := G69_ok.add ⟨Try.f100, Try.func100, by kernel_rfl, by kernel_rfl⟩ impl_some_c8



def impl_ReadyDanger_loops : Nat → Option LoopSpec
  | _ => none

theorem impl_ReadyDanger_y (a0 : Int) (a1 : Int) (a2 : Int) (a3 : Int) (a4 : (List dRange)) (a5 : (List dWrite)) (a6 : Bool) (a7 : ByteArray) (a8 : (List dTxn)) : execFn G70 impl_ReadyDanger_loops Try.f32 [.agg [.int .i64 a0, .int .i64 a1, .int .i64 a2, .int .i64 a3, .lst tRange a4, .lst tWrite a5, .bool a6, .str a7], .lst tTxn a8] [] = impl_ReadyDanger_k (a0, (a1, (a2, (a3, (a4, (a5, (a6, a7))))))) a8 (fun (y : Bool) => some ⟨.ret, [.bool y], []⟩) := by rw [impl_ReadyDanger_e]; kernel_rfl

theorem impl_ReadyDanger_l : LoopsOk G70 ⟨0, 23, impl_ReadyDanger_loops⟩ (Try.f32.body.getD .skip) :=
  loopsOk_of (ids := []) (by kernel_rfl) (by kernel_rfl) trivial

theorem impl_ReadyDanger_c : Contract Try.prog 32 impl_ReadyDanger_g := by
  refine told G70_ok follows Try.func32 (c := Try.f32.body.getD .skip) (by kernel_rfl) ?_
  intro args s k r hk
  unfold impl_ReadyDanger_g at hk
  rcases onPats_inv hk with ⟨p, q, rfl, rfl⟩ | hk
  · exact ⟨impl_ReadyDanger_loops, impl_ReadyDanger_q p.1.1 p.1.2.1 p.1.2.2.1 p.1.2.2.2.1 p.1.2.2.2.2.1 p.1.2.2.2.2.2.1 p.1.2.2.2.2.2.2.1 p.1.2.2.2.2.2.2.2.1 p.2.1, impl_ReadyDanger_y p.1.1 p.1.2.1 p.1.2.2.1 p.1.2.2.2.1 p.1.2.2.2.2.1 p.1.2.2.2.2.2.1 p.1.2.2.2.2.2.2.1 p.1.2.2.2.2.2.2.2.1 p.2.1, impl_ReadyDanger_l⟩
  cases hk

def G71 : Glob := G70.add 32 impl_ReadyDanger_g

theorem G71_ok : GlobOk Try.prog G71 := G70_ok.add ⟨Try.f32, Try.func32, by kernel_rfl, by kernel_rfl⟩ impl_ReadyDanger_c



def spec_ReadyDanger_loops : Nat → Option LoopSpec
  | 2 => some ⟨[1, 2, 4, 5, 6, 7, 8], [], fun vals st k => onPats [.lst tTxn, .bp 0 0, .bool, .bool, .int .i64, .bp 1 0, .int .i64] [.box [.int .i64, .int .i64, .int .i64, .int .i64, .lst tRange, .lst tWrite, .bool, .str], .box [.int .i64, .int .i64, .int .i64, .int .i64, .lst tRange, .lst tWrite, .bool, .str]] vals st (fun p q => loopK spec_ReadyDanger_b2 Fuel (p.1, p.2.2.1, p.2.2.2.1, p.2.2.2.2.1, p.2.2.2.2.2.2.1, q.1.1, q.1.2.1, q.1.2.2.1, q.1.2.2.2.1, q.1.2.2.2.2.1, q.1.2.2.2.2.2.1, q.1.2.2.2.2.2.2.1, q.1.2.2.2.2.2.2.2.1, q.2.1.1, q.2.1.2.1, q.2.1.2.2.1, q.2.1.2.2.2.1, q.2.1.2.2.2.2.1, q.2.1.2.2.2.2.2.1, q.2.1.2.2.2.2.2.2.1, q.2.1.2.2.2.2.2.2.2.1) (Sum.elim (fun z => k .ret [.lst tTxn z.1, .bp 0 0, .bool z.2.1, .bool z.2.2.1, .int .i64 z.2.2.2.1, .bp 1 0, .int .i64 z.2.2.2.2.1] [.box [.int .i64 z.2.2.2.2.2.1, .int .i64 z.2.2.2.2.2.2.1, .int .i64 z.2.2.2.2.2.2.2.1, .int .i64 z.2.2.2.2.2.2.2.2.1, .lst tRange z.2.2.2.2.2.2.2.2.2.1, .lst tWrite z.2.2.2.2.2.2.2.2.2.2.1, .bool z.2.2.2.2.2.2.2.2.2.2.2.1, .str z.2.2.2.2.2.2.2.2.2.2.2.2.1], .box [.int .i64 z.2.2.2.2.2.2.2.2.2.2.2.2.2.1, .int .i64 z.2.2.2.2.2.2.2.2.2.2.2.2.2.2.1, .int .i64 z.2.2.2.2.2.2.2.2.2.2.2.2.2.2.2.1, .int .i64 z.2.2.2.2.2.2.2.2.2.2.2.2.2.2.2.2.1, .lst tRange z.2.2.2.2.2.2.2.2.2.2.2.2.2.2.2.2.2.1, .lst tWrite z.2.2.2.2.2.2.2.2.2.2.2.2.2.2.2.2.2.2.1, .bool z.2.2.2.2.2.2.2.2.2.2.2.2.2.2.2.2.2.2.2.1, .str z.2.2.2.2.2.2.2.2.2.2.2.2.2.2.2.2.2.2.2.2]]) (fun z => k (.exit 2) [.lst tTxn z.1, .bp 0 0, .bool z.2.1, .bool z.2.2.1, .int .i64 z.2.2.2.1, .bp 1 0, .int .i64 z.2.2.2.2.1] [.box [.int .i64 z.2.2.2.2.2.1, .int .i64 z.2.2.2.2.2.2.1, .int .i64 z.2.2.2.2.2.2.2.1, .int .i64 z.2.2.2.2.2.2.2.2.1, .lst tRange z.2.2.2.2.2.2.2.2.2.1, .lst tWrite z.2.2.2.2.2.2.2.2.2.2.1, .bool z.2.2.2.2.2.2.2.2.2.2.2.1, .str z.2.2.2.2.2.2.2.2.2.2.2.2.1], .box [.int .i64 z.2.2.2.2.2.2.2.2.2.2.2.2.2.1, .int .i64 z.2.2.2.2.2.2.2.2.2.2.2.2.2.2.1, .int .i64 z.2.2.2.2.2.2.2.2.2.2.2.2.2.2.2.1, .int .i64 z.2.2.2.2.2.2.2.2.2.2.2.2.2.2.2.2.1, .lst tRange z.2.2.2.2.2.2.2.2.2.2.2.2.2.2.2.2.2.1, .lst tWrite z.2.2.2.2.2.2.2.2.2.2.2.2.2.2.2.2.2.2.1, .bool z.2.2.2.2.2.2.2.2.2.2.2.2.2.2.2.2.2.2.2.1, .str z.2.2.2.2.2.2.2.2.2.2.2.2.2.2.2.2.2.2.2.2]])))
      (none)⟩
  | 5000009 => some ⟨[1, 2, 4, 5, 6, 7], [], fun vals st k => onPats [.lst tTxn, .bp 0 0, .bool, .bool, .int .i64, .bp 1 0] [.box [.int .i64, .int .i64, .int .i64, .int .i64, .lst tRange, .lst tWrite, .bool, .str], .box [.int .i64, .int .i64, .int .i64, .int .i64, .lst tRange, .lst tWrite, .bool, .str]] vals st (fun p q => spec_ReadyDanger_j5000009 (p.1, p.2.2.1, p.2.2.2.1, p.2.2.2.2.1, q.1.1, q.1.2.1, q.1.2.2.1, q.1.2.2.2.1, q.1.2.2.2.2.1, q.1.2.2.2.2.2.1, q.1.2.2.2.2.2.2.1, q.1.2.2.2.2.2.2.2.1, q.2.1.1, q.2.1.2.1, q.2.1.2.2.1, q.2.1.2.2.2.1, q.2.1.2.2.2.2.1, q.2.1.2.2.2.2.2.1, q.2.1.2.2.2.2.2.2.1, q.2.1.2.2.2.2.2.2.2.1) (Sum.elim (fun z => k .ret [.lst tTxn z.1, .bp 0 0, .bool z.2.1, .bool z.2.2.1, .int .i64 z.2.2.2.1, .bp 1 0] [.box [.int .i64 z.2.2.2.2.1, .int .i64 z.2.2.2.2.2.1, .int .i64 z.2.2.2.2.2.2.1, .int .i64 z.2.2.2.2.2.2.2.1, .lst tRange z.2.2.2.2.2.2.2.2.1, .lst tWrite z.2.2.2.2.2.2.2.2.2.1, .bool z.2.2.2.2.2.2.2.2.2.2.1, .str z.2.2.2.2.2.2.2.2.2.2.2.1], .box [.int .i64 z.2.2.2.2.2.2.2.2.2.2.2.2.1, .int .i64 z.2.2.2.2.2.2.2.2.2.2.2.2.2.1, .int .i64 z.2.2.2.2.2.2.2.2.2.2.2.2.2.2.1, .int .i64 z.2.2.2.2.2.2.2.2.2.2.2.2.2.2.2.1, .lst tRange z.2.2.2.2.2.2.2.2.2.2.2.2.2.2.2.2.1, .lst tWrite z.2.2.2.2.2.2.2.2.2.2.2.2.2.2.2.2.2.1, .bool z.2.2.2.2.2.2.2.2.2.2.2.2.2.2.2.2.2.2.1, .str z.2.2.2.2.2.2.2.2.2.2.2.2.2.2.2.2.2.2.2]]) (fun z => k .norm [.lst tTxn z.1, .bp 0 0, .bool z.2.1, .bool z.2.2.1, .int .i64 z.2.2.2.1, .bp 1 0] [.box [.int .i64 z.2.2.2.2.1, .int .i64 z.2.2.2.2.2.1, .int .i64 z.2.2.2.2.2.2.1, .int .i64 z.2.2.2.2.2.2.2.1, .lst tRange z.2.2.2.2.2.2.2.2.1, .lst tWrite z.2.2.2.2.2.2.2.2.2.1, .bool z.2.2.2.2.2.2.2.2.2.2.1, .str z.2.2.2.2.2.2.2.2.2.2.2.1], .box [.int .i64 z.2.2.2.2.2.2.2.2.2.2.2.2.1, .int .i64 z.2.2.2.2.2.2.2.2.2.2.2.2.2.1, .int .i64 z.2.2.2.2.2.2.2.2.2.2.2.2.2.2.1, .int .i64 z.2.2.2.2.2.2.2.2.2.2.2.2.2.2.2.1, .lst tRange z.2.2.2.2.2.2.2.2.2.2.2.2.2.2.2.2.1, .lst tWrite z.2.2.2.2.2.2.2.2.2.2.2.2.2.2.2.2.2.1, .bool z.2.2.2.2.2.2.2.2.2.2.2.2.2.2.2.2.2.2.1, .str z.2.2.2.2.2.2.2.2.2.2.2.2.2.2.2.2.2.2.2]])))
      (none)⟩
  | 0 => some ⟨[1, 2, 4, 5, 6], [], fun vals st k => onPats [.lst tTxn, .bp 0 0, .bool, .bool, .int .i64] [.box [.int .i64, .int .i64, .int .i64, .int .i64, .lst tRange, .lst tWrite, .bool, .str]] vals st (fun p q => loopK spec_ReadyDanger_b0 Fuel (p.1, p.2.2.1, p.2.2.2.1, p.2.2.2.2.1, q.1.1, q.1.2.1, q.1.2.2.1, q.1.2.2.2.1, q.1.2.2.2.2.1, q.1.2.2.2.2.2.1, q.1.2.2.2.2.2.2.1, q.1.2.2.2.2.2.2.2.1) (Sum.elim (fun z => k (.exit 0) [.lst tTxn z.1, .bp 0 0, .bool z.2.1, .bool z.2.2.1, .int .i64 z.2.2.2.1] [.box [.int .i64 z.2.2.2.2.1, .int .i64 z.2.2.2.2.2.1, .int .i64 z.2.2.2.2.2.2.1, .int .i64 z.2.2.2.2.2.2.2.1, .lst tRange z.2.2.2.2.2.2.2.2.1, .lst tWrite z.2.2.2.2.2.2.2.2.2.1, .bool z.2.2.2.2.2.2.2.2.2.2.1, .str z.2.2.2.2.2.2.2.2.2.2.2]]) (fun z => k .ret [.lst tTxn z.1, .bp 0 0, .bool z.2.1, .bool z.2.2.1, .int .i64 z.2.2.2.1] [.box [.int .i64 z.2.2.2.2.1, .int .i64 z.2.2.2.2.2.1, .int .i64 z.2.2.2.2.2.2.1, .int .i64 z.2.2.2.2.2.2.2.1, .lst tRange z.2.2.2.2.2.2.2.2.1, .lst tWrite z.2.2.2.2.2.2.2.2.2.1, .bool z.2.2.2.2.2.2.2.2.2.2.1, .str z.2.2.2.2.2.2.2.2.2.2.2]])))
      (none)⟩
  | 2000014 => some ⟨[0, 2, 4, 6, 8, 10, 12, 14, 16, 18, 20, 22, 24, 26, 28, 30, 32, 34, 36, 38, 40, 42, 45, 46], [], fun _ _ _ => none⟩
  | _ => none

def spec_ReadyDanger_v2 : q7T → List AV := (fun x => [.lst tTxn x.1, .bp 0 0, .bool x.2.1, .bool x.2.2.1, .int .i64 x.2.2.2.1, .bp 1 0, .int .i64 x.2.2.2.2.1])
def spec_ReadyDanger_s2 : q7T → St := (fun x => [.box [.int .i64 x.2.2.2.2.2.1, .int .i64 x.2.2.2.2.2.2.1, .int .i64 x.2.2.2.2.2.2.2.1, .int .i64 x.2.2.2.2.2.2.2.2.1, .lst tRange x.2.2.2.2.2.2.2.2.2.1, .lst tWrite x.2.2.2.2.2.2.2.2.2.2.1, .bool x.2.2.2.2.2.2.2.2.2.2.2.1, .str x.2.2.2.2.2.2.2.2.2.2.2.2.1], .box [.int .i64 x.2.2.2.2.2.2.2.2.2.2.2.2.2.1, .int .i64 x.2.2.2.2.2.2.2.2.2.2.2.2.2.2.1, .int .i64 x.2.2.2.2.2.2.2.2.2.2.2.2.2.2.2.1, .int .i64 x.2.2.2.2.2.2.2.2.2.2.2.2.2.2.2.2.1, .lst tRange x.2.2.2.2.2.2.2.2.2.2.2.2.2.2.2.2.2.1, .lst tWrite x.2.2.2.2.2.2.2.2.2.2.2.2.2.2.2.2.2.2.1, .bool x.2.2.2.2.2.2.2.2.2.2.2.2.2.2.2.2.2.2.2.1, .str x.2.2.2.2.2.2.2.2.2.2.2.2.2.2.2.2.2.2.2.2]])
def spec_ReadyDanger_e2 : (q7T ⊕ q7T) → Out × List AV × St := (Sum.elim (fun z => (.ret, [.lst tTxn z.1, .bp 0 0, .bool z.2.1, .bool z.2.2.1, .int .i64 z.2.2.2.1, .bp 1 0, .int .i64 z.2.2.2.2.1], [.box [.int .i64 z.2.2.2.2.2.1, .int .i64 z.2.2.2.2.2.2.1, .int .i64 z.2.2.2.2.2.2.2.1, .int .i64 z.2.2.2.2.2.2.2.2.1, .lst tRange z.2.2.2.2.2.2.2.2.2.1, .lst tWrite z.2.2.2.2.2.2.2.2.2.2.1, .bool z.2.2.2.2.2.2.2.2.2.2.2.1, .str z.2.2.2.2.2.2.2.2.2.2.2.2.1], .box [.int .i64 z.2.2.2.2.2.2.2.2.2.2.2.2.2.1, .int .i64 z.2.2.2.2.2.2.2.2.2.2.2.2.2.2.1, .int .i64 z.2.2.2.2.2.2.2.2.2.2.2.2.2.2.2.1, .int .i64 z.2.2.2.2.2.2.2.2.2.2.2.2.2.2.2.2.1, .lst tRange z.2.2.2.2.2.2.2.2.2.2.2.2.2.2.2.2.2.1, .lst tWrite z.2.2.2.2.2.2.2.2.2.2.2.2.2.2.2.2.2.2.1, .bool z.2.2.2.2.2.2.2.2.2.2.2.2.2.2.2.2.2.2.2.1, .str z.2.2.2.2.2.2.2.2.2.2.2.2.2.2.2.2.2.2.2.2]])) (fun z => ((.exit 2), [.lst tTxn z.1, .bp 0 0, .bool z.2.1, .bool z.2.2.1, .int .i64 z.2.2.2.1, .bp 1 0, .int .i64 z.2.2.2.2.1], [.box [.int .i64 z.2.2.2.2.2.1, .int .i64 z.2.2.2.2.2.2.1, .int .i64 z.2.2.2.2.2.2.2.1, .int .i64 z.2.2.2.2.2.2.2.2.1, .lst tRange z.2.2.2.2.2.2.2.2.2.1, .lst tWrite z.2.2.2.2.2.2.2.2.2.2.1, .bool z.2.2.2.2.2.2.2.2.2.2.2.1, .str z.2.2.2.2.2.2.2.2.2.2.2.2.1], .box [.int .i64 z.2.2.2.2.2.2.2.2.2.2.2.2.2.1, .int .i64 z.2.2.2.2.2.2.2.2.2.2.2.2.2.2.1, .int .i64 z.2.2.2.2.2.2.2.2.2.2.2.2.2.2.2.1, .int .i64 z.2.2.2.2.2.2.2.2.2.2.2.2.2.2.2.2.1, .lst tRange z.2.2.2.2.2.2.2.2.2.2.2.2.2.2.2.2.2.1, .lst tWrite z.2.2.2.2.2.2.2.2.2.2.2.2.2.2.2.2.2.2.1, .bool z.2.2.2.2.2.2.2.2.2.2.2.2.2.2.2.2.2.2.2.1, .str z.2.2.2.2.2.2.2.2.2.2.2.2.2.2.2.2.2.2.2.2]])))

theorem spec_ReadyDanger_bx2 (x : q7T) : exec G71 ⟨0, 65, spec_ReadyDanger_loops⟩ (loopBody Try.f33 2) (bodyK ⟨0, 65, spec_ReadyDanger_loops⟩ [1, 2, 4, 5, 6, 7, 8] []) (setEs (deads 65) [1, 2, 4, 5, 6, 7, 8] (spec_ReadyDanger_v2 x)) (spec_ReadyDanger_s2 x) = spec_ReadyDanger_b2 x (Sum.elim (fun y => some ⟨.norm, spec_ReadyDanger_v2 y, spec_ReadyDanger_s2 y⟩) fun z => some ⟨(spec_ReadyDanger_e2 z).1, (spec_ReadyDanger_e2 z).2.1, (spec_ReadyDanger_e2 z).2.2⟩) := by
  kernel_rfl

theorem spec_ReadyDanger_lo2 : ∀ sp, (spec_ReadyDanger_loops 2) = some sp → LoopOk G71 ⟨0, 65, spec_ReadyDanger_loops⟩ sp (loopBody Try.f33 2) := by
  intro sp hsp vals st k r h
  cases hsp
  dsimp only at h
  rcases onPats_inv2 h with ⟨p, q, rfl, rfl, h⟩ | h
  · exact loop_runs2 spec_ReadyDanger_bp2 spec_ReadyDanger_v2 spec_ReadyDanger_s2 spec_ReadyDanger_e2 (fun z => by rcases z with z | z <;> (intro h; cases h)) spec_ReadyDanger_bx2 Fuel (p.1, p.2.2.1, p.2.2.2.1, p.2.2.2.2.1, p.2.2.2.2.2.2.1, q.1.1, q.1.2.1, q.1.2.2.1, q.1.2.2.2.1, q.1.2.2.2.2.1, q.1.2.2.2.2.2.1, q.1.2.2.2.2.2.2.1, q.1.2.2.2.2.2.2.2.1, q.2.1.1, q.2.1.2.1, q.2.1.2.2.1, q.2.1.2.2.2.1, q.2.1.2.2.2.2.1, q.2.1.2.2.2.2.2.1, q.2.1.2.2.2.2.2.2.1, q.2.1.2.2.2.2.2.2.2.1) _ k r (fun z => by rcases z with z | z <;> rfl) h
  cases h

def spec_ReadyDanger_jv5000009 : q5T → List AV := (fun x => [.lst tTxn x.1, .bp 0 0, .bool x.2.1, .bool x.2.2.1, .int .i64 x.2.2.2.1, .bp 1 0])
def spec_ReadyDanger_js5000009 : q5T → St := (fun x => [.box [.int .i64 x.2.2.2.2.1, .int .i64 x.2.2.2.2.2.1, .int .i64 x.2.2.2.2.2.2.1, .int .i64 x.2.2.2.2.2.2.2.1, .lst tRange x.2.2.2.2.2.2.2.2.1, .lst tWrite x.2.2.2.2.2.2.2.2.2.1, .bool x.2.2.2.2.2.2.2.2.2.2.1, .str x.2.2.2.2.2.2.2.2.2.2.2.1], .box [.int .i64 x.2.2.2.2.2.2.2.2.2.2.2.2.1, .int .i64 x.2.2.2.2.2.2.2.2.2.2.2.2.2.1, .int .i64 x.2.2.2.2.2.2.2.2.2.2.2.2.2.2.1, .int .i64 x.2.2.2.2.2.2.2.2.2.2.2.2.2.2.2.1, .lst tRange x.2.2.2.2.2.2.2.2.2.2.2.2.2.2.2.2.1, .lst tWrite x.2.2.2.2.2.2.2.2.2.2.2.2.2.2.2.2.2.1, .bool x.2.2.2.2.2.2.2.2.2.2.2.2.2.2.2.2.2.2.1, .str x.2.2.2.2.2.2.2.2.2.2.2.2.2.2.2.2.2.2.2]])
def spec_ReadyDanger_je5000009 : (q5T ⊕ q5T) → Out × List AV × St := (Sum.elim (fun z => (.ret, [.lst tTxn z.1, .bp 0 0, .bool z.2.1, .bool z.2.2.1, .int .i64 z.2.2.2.1, .bp 1 0], [.box [.int .i64 z.2.2.2.2.1, .int .i64 z.2.2.2.2.2.1, .int .i64 z.2.2.2.2.2.2.1, .int .i64 z.2.2.2.2.2.2.2.1, .lst tRange z.2.2.2.2.2.2.2.2.1, .lst tWrite z.2.2.2.2.2.2.2.2.2.1, .bool z.2.2.2.2.2.2.2.2.2.2.1, .str z.2.2.2.2.2.2.2.2.2.2.2.1], .box [.int .i64 z.2.2.2.2.2.2.2.2.2.2.2.2.1, .int .i64 z.2.2.2.2.2.2.2.2.2.2.2.2.2.1, .int .i64 z.2.2.2.2.2.2.2.2.2.2.2.2.2.2.1, .int .i64 z.2.2.2.2.2.2.2.2.2.2.2.2.2.2.2.1, .lst tRange z.2.2.2.2.2.2.2.2.2.2.2.2.2.2.2.2.1, .lst tWrite z.2.2.2.2.2.2.2.2.2.2.2.2.2.2.2.2.2.1, .bool z.2.2.2.2.2.2.2.2.2.2.2.2.2.2.2.2.2.2.1, .str z.2.2.2.2.2.2.2.2.2.2.2.2.2.2.2.2.2.2.2]])) (fun z => (.norm, [.lst tTxn z.1, .bp 0 0, .bool z.2.1, .bool z.2.2.1, .int .i64 z.2.2.2.1, .bp 1 0], [.box [.int .i64 z.2.2.2.2.1, .int .i64 z.2.2.2.2.2.1, .int .i64 z.2.2.2.2.2.2.1, .int .i64 z.2.2.2.2.2.2.2.1, .lst tRange z.2.2.2.2.2.2.2.2.1, .lst tWrite z.2.2.2.2.2.2.2.2.2.1, .bool z.2.2.2.2.2.2.2.2.2.2.1, .str z.2.2.2.2.2.2.2.2.2.2.2.1], .box [.int .i64 z.2.2.2.2.2.2.2.2.2.2.2.2.1, .int .i64 z.2.2.2.2.2.2.2.2.2.2.2.2.2.1, .int .i64 z.2.2.2.2.2.2.2.2.2.2.2.2.2.2.1, .int .i64 z.2.2.2.2.2.2.2.2.2.2.2.2.2.2.2.1, .lst tRange z.2.2.2.2.2.2.2.2.2.2.2.2.2.2.2.2.1, .lst tWrite z.2.2.2.2.2.2.2.2.2.2.2.2.2.2.2.2.2.1, .bool z.2.2.2.2.2.2.2.2.2.2.2.2.2.2.2.2.2.2.1, .str z.2.2.2.2.2.2.2.2.2.2.2.2.2.2.2.2.2.2.2]])))

theorem spec_ReadyDanger_jx5000009 (x : q5T) : exec G71 ⟨0, 65, spec_ReadyDanger_loops⟩ (loopBody Try.f33 5000009) (bodyK ⟨0, 65, spec_ReadyDanger_loops⟩ [1, 2, 4, 5, 6, 7] []) (setEs (deads 65) [1, 2, 4, 5, 6, 7] (spec_ReadyDanger_jv5000009 x)) (spec_ReadyDanger_js5000009 x) = spec_ReadyDanger_j5000009 x (fun z => some ⟨(spec_ReadyDanger_je5000009 z).1, (spec_ReadyDanger_je5000009 z).2.1, (spec_ReadyDanger_je5000009 z).2.2⟩) := by
  kernel_rfl

theorem spec_ReadyDanger_lo5000009 : ∀ sp, (spec_ReadyDanger_loops 5000009) = some sp → CutOk G71 ⟨0, 65, spec_ReadyDanger_loops⟩ sp (loopBody Try.f33 5000009) := by
  intro sp hsp vals st k r h
  cases hsp
  dsimp only at h
  rcases onPats_inv2 h with ⟨p, q, rfl, rfl, h⟩ | h
  · exact cut_runs spec_ReadyDanger_jp5000009 spec_ReadyDanger_jv5000009 spec_ReadyDanger_js5000009 spec_ReadyDanger_je5000009 spec_ReadyDanger_jx5000009 (p.1, p.2.2.1, p.2.2.2.1, p.2.2.2.2.1, q.1.1, q.1.2.1, q.1.2.2.1, q.1.2.2.2.1, q.1.2.2.2.2.1, q.1.2.2.2.2.2.1, q.1.2.2.2.2.2.2.1, q.1.2.2.2.2.2.2.2.1, q.2.1.1, q.2.1.2.1, q.2.1.2.2.1, q.2.1.2.2.2.1, q.2.1.2.2.2.2.1, q.2.1.2.2.2.2.2.1, q.2.1.2.2.2.2.2.2.1, q.2.1.2.2.2.2.2.2.2.1) _ k r (fun z => by rcases z with z | z <;> rfl) h
  cases h

def spec_ReadyDanger_v0 : q6T → List AV := (fun x => [.lst tTxn x.1, .bp 0 0, .bool x.2.1, .bool x.2.2.1, .int .i64 x.2.2.2.1])
def spec_ReadyDanger_s0 : q6T → St := (fun x => [.box [.int .i64 x.2.2.2.2.1, .int .i64 x.2.2.2.2.2.1, .int .i64 x.2.2.2.2.2.2.1, .int .i64 x.2.2.2.2.2.2.2.1, .lst tRange x.2.2.2.2.2.2.2.2.1, .lst tWrite x.2.2.2.2.2.2.2.2.2.1, .bool x.2.2.2.2.2.2.2.2.2.2.1, .str x.2.2.2.2.2.2.2.2.2.2.2]])
def spec_ReadyDanger_e0 : (q6T ⊕ q6T) → Out × List AV × St := (Sum.elim (fun z => ((.exit 0), [.lst tTxn z.1, .bp 0 0, .bool z.2.1, .bool z.2.2.1, .int .i64 z.2.2.2.1], [.box [.int .i64 z.2.2.2.2.1, .int .i64 z.2.2.2.2.2.1, .int .i64 z.2.2.2.2.2.2.1, .int .i64 z.2.2.2.2.2.2.2.1, .lst tRange z.2.2.2.2.2.2.2.2.1, .lst tWrite z.2.2.2.2.2.2.2.2.2.1, .bool z.2.2.2.2.2.2.2.2.2.2.1, .str z.2.2.2.2.2.2.2.2.2.2.2]])) (fun z => (.ret, [.lst tTxn z.1, .bp 0 0, .bool z.2.1, .bool z.2.2.1, .int .i64 z.2.2.2.1], [.box [.int .i64 z.2.2.2.2.1, .int .i64 z.2.2.2.2.2.1, .int .i64 z.2.2.2.2.2.2.1, .int .i64 z.2.2.2.2.2.2.2.1, .lst tRange z.2.2.2.2.2.2.2.2.1, .lst tWrite z.2.2.2.2.2.2.2.2.2.1, .bool z.2.2.2.2.2.2.2.2.2.2.1, .str z.2.2.2.2.2.2.2.2.2.2.2]])))

theorem spec_ReadyDanger_bx0 (x : q6T) : exec G71 ⟨0, 65, spec_ReadyDanger_loops⟩ (loopBody Try.f33 0) (bodyK ⟨0, 65, spec_ReadyDanger_loops⟩ [1, 2, 4, 5, 6] []) (setEs (deads 65) [1, 2, 4, 5, 6] (spec_ReadyDanger_v0 x)) (spec_ReadyDanger_s0 x) = spec_ReadyDanger_b0 x (Sum.elim (fun y => some ⟨.norm, spec_ReadyDanger_v0 y, spec_ReadyDanger_s0 y⟩) fun z => some ⟨(spec_ReadyDanger_e0 z).1, (spec_ReadyDanger_e0 z).2.1, (spec_ReadyDanger_e0 z).2.2⟩) := by
  kernel_rfl

theorem spec_ReadyDanger_lo0 : ∀ sp, (spec_ReadyDanger_loops 0) = some sp → LoopOk G71 ⟨0, 65, spec_ReadyDanger_loops⟩ sp (loopBody Try.f33 0) := by
  intro sp hsp vals st k r h
  cases hsp
  dsimp only at h
  rcases onPats_inv2 h with ⟨p, q, rfl, rfl, h⟩ | h
  · exact loop_runs2 spec_ReadyDanger_bp0 spec_ReadyDanger_v0 spec_ReadyDanger_s0 spec_ReadyDanger_e0 (fun z => by rcases z with z | z <;> (intro h; cases h)) spec_ReadyDanger_bx0 Fuel (p.1, p.2.2.1, p.2.2.2.1, p.2.2.2.2.1, q.1.1, q.1.2.1, q.1.2.2.1, q.1.2.2.2.1, q.1.2.2.2.2.1, q.1.2.2.2.2.2.1, q.1.2.2.2.2.2.2.1, q.1.2.2.2.2.2.2.2.1) _ k r (fun z => by rcases z with z | z <;> rfl) h
  cases h

theorem spec_ReadyDanger_y (a0 : Int) (a1 : Int) (a2 : Int) (a3 : Int) (a4 : (List dRange)) (a5 : (List dWrite)) (a6 : Bool) (a7 : ByteArray) (a8 : (List dTxn)) : execFn G71 spec_ReadyDanger_loops Try.f33 [.agg [.int .i64 a0, .int .i64 a1, .int .i64 a2, .int .i64 a3, .lst tRange a4, .lst tWrite a5, .bool a6, .str a7], .lst tTxn a8] [] = spec_ReadyDanger_k (a0, (a1, (a2, (a3, (a4, (a5, (a6, a7))))))) a8 (fun (y : Bool) => some ⟨.ret, [.bool y], []⟩) := by rw [spec_ReadyDanger_e]; kernel_rfl

theorem spec_ReadyDanger_l : LoopsOk G71 ⟨0, 65, spec_ReadyDanger_loops⟩ (Try.f33.body.getD .skip) :=
  loopsOk_of (ids := [2, 5000009, 0]) (by kernel_rfl) (by kernel_rfl) ⟨spec_ReadyDanger_lo2, ⟨spec_ReadyDanger_lo5000009, ⟨spec_ReadyDanger_lo0, trivial⟩⟩⟩

theorem spec_ReadyDanger_c : Contract Try.prog 33 spec_ReadyDanger_g := by
  refine told G71_ok follows Try.func33 (c := Try.f33.body.getD .skip) (by kernel_rfl) ?_
  intro args s k r hk
  unfold spec_ReadyDanger_g at hk
  rcases onPats_inv hk with ⟨p, q, rfl, rfl⟩ | hk
  · exact ⟨spec_ReadyDanger_loops, spec_ReadyDanger_q p.1.1 p.1.2.1 p.1.2.2.1 p.1.2.2.2.1 p.1.2.2.2.2.1 p.1.2.2.2.2.2.1 p.1.2.2.2.2.2.2.1 p.1.2.2.2.2.2.2.2.1 p.2.1, spec_ReadyDanger_y p.1.1 p.1.2.1 p.1.2.2.1 p.1.2.2.2.1 p.1.2.2.2.2.1 p.1.2.2.2.2.2.1 p.1.2.2.2.2.2.2.1 p.1.2.2.2.2.2.2.2.1 p.2.1, spec_ReadyDanger_l⟩
  cases hk

def G72 : Glob := G71.add 33 spec_ReadyDanger_g

theorem G72_ok : GlobOk Try.prog G72 := G71_ok.add ⟨Try.f33, Try.func33, by kernel_rfl, by kernel_rfl⟩ spec_ReadyDanger_c

end

end Go.VE
