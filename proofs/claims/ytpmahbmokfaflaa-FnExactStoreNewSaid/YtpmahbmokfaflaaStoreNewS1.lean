/- Each function told by its native program; written by gen.py. -/

import Derived.Test.YtpmahbmokfaflaaStoreNewS0

namespace Go.VE

open Go.Proofs

noncomputable section

set_option linter.unusedVariables false
set_option linter.unusedSimpArgs false
set_option maxRecDepth 100000




def spec_BaseNew_loops : Nat → Option LoopSpec
  | _ => none

theorem spec_BaseNew_y  : execFn G0 spec_BaseNew_loops Try.f186 [] [] = spec_BaseNew_k  (fun (y : (Int × Int)) => some ⟨.ret, [.agg [.nilS, .nilS, .nilS, .int .i64 y.1, .int .i64 y.2]], []⟩) := by rw [spec_BaseNew_e]; kernel_rfl

theorem spec_BaseNew_l : LoopsOk G0 ⟨0, 2, spec_BaseNew_loops⟩ (Try.f186.body.getD .skip) :=
  loopsOk_of (ids := []) (by kernel_rfl) (by kernel_rfl) trivial

theorem spec_BaseNew_c : Contract Try.prog 186 spec_BaseNew_g := by
  refine told G0_ok follows Try.func186 (c := Try.f186.body.getD .skip) (by kernel_rfl) ?_
  intro args s k r hk
  unfold spec_BaseNew_g at hk
  rcases onPats_inv hk with ⟨p, q, rfl, rfl⟩ | hk
  · exact ⟨spec_BaseNew_loops, spec_BaseNew_q , spec_BaseNew_y , spec_BaseNew_l⟩
  cases hk

def G1 : Glob := G0.add 186 spec_BaseNew_g

theorem G1_ok : GlobOk Try.prog G1 := G0_ok.add ⟨Try.f186, Try.func186, by kernel_rfl, by kernel_rfl⟩ spec_BaseNew_c



def spec_EngineNew_loops : Nat → Option LoopSpec
  | _ => none

theorem spec_EngineNew_y  : execFn G1 spec_EngineNew_loops Try.f105 [] [] = spec_EngineNew_k  (fun (y : (Int × Int)) => some ⟨.ret, [.agg [.nilS, .nilS, .nilS, .int .i64 y.1, .int .i64 y.2, .nilS]], []⟩) := by rw [spec_EngineNew_e]; kernel_rfl

theorem spec_EngineNew_l : LoopsOk G1 ⟨0, 3, spec_EngineNew_loops⟩ (Try.f105.body.getD .skip) :=
  loopsOk_of (ids := []) (by kernel_rfl) (by kernel_rfl) trivial

theorem spec_EngineNew_c : Contract Try.prog 105 spec_EngineNew_g := by
  refine told G1_ok follows Try.func105 (c := Try.f105.body.getD .skip) (by kernel_rfl) ?_
  intro args s k r hk
  unfold spec_EngineNew_g at hk
  rcases onPats_inv hk with ⟨p, q, rfl, rfl⟩ | hk
  · exact ⟨spec_EngineNew_loops, spec_EngineNew_q , spec_EngineNew_y , spec_EngineNew_l⟩
  cases hk

def G2 : Glob := G1.add 105 spec_EngineNew_g

theorem G2_ok : GlobOk Try.prog G2 := G1_ok.add ⟨Try.f105, Try.func105, by kernel_rfl, by kernel_rfl⟩ spec_EngineNew_c



def spec_l04Sectors_loops : Nat → Option LoopSpec
  | _ => none

theorem spec_l04Sectors_y  : execFn G2 spec_l04Sectors_loops Try.f188 [] [] = spec_l04Sectors_k  (fun (y : Int) => some ⟨.ret, [.int .i64 y], []⟩) := by rw [spec_l04Sectors_e]; kernel_rfl

theorem spec_l04Sectors_l : LoopsOk G2 ⟨0, 1, spec_l04Sectors_loops⟩ (Try.f188.body.getD .skip) :=
  loopsOk_of (ids := []) (by kernel_rfl) (by kernel_rfl) trivial

theorem spec_l04Sectors_c : Contract Try.prog 188 spec_l04Sectors_g := by
  refine told G2_ok follows Try.func188 (c := Try.f188.body.getD .skip) (by kernel_rfl) ?_
  intro args s k r hk
  unfold spec_l04Sectors_g at hk
  rcases onPats_inv hk with ⟨p, q, rfl, rfl⟩ | hk
  · exact ⟨spec_l04Sectors_loops, spec_l04Sectors_q , spec_l04Sectors_y , spec_l04Sectors_l⟩
  cases hk

def G3 : Glob := G2.add 188 spec_l04Sectors_g

theorem G3_ok : GlobOk Try.prog G3 := G2_ok.add ⟨Try.f188, Try.func188, by kernel_rfl, by kernel_rfl⟩ spec_l04Sectors_c



def spec_l01In_loops : Nat → Option LoopSpec
  | _ => none

theorem spec_l01In_y (a0 : Int) (a1 : Int) (a2 : Int) : execFn G3 spec_l01In_loops Try.f94 [.int .i64 a0, .int .i64 a1, .int .i64 a2] [] = spec_l01In_k a0 a1 a2 (fun (y : Bool) => some ⟨.ret, [.bool y], []⟩) := by rw [spec_l01In_e]; kernel_rfl

theorem spec_l01In_l : LoopsOk G3 ⟨0, 15, spec_l01In_loops⟩ (Try.f94.body.getD .skip) :=
  loopsOk_of (ids := []) (by kernel_rfl) (by kernel_rfl) trivial

theorem spec_l01In_c : Contract Try.prog 94 spec_l01In_g := by
  refine told G3_ok follows Try.func94 (c := Try.f94.body.getD .skip) (by kernel_rfl) ?_
  intro args s k r hk
  unfold spec_l01In_g at hk
  rcases onPats_inv hk with ⟨p, q, rfl, rfl⟩ | hk
  · exact ⟨spec_l01In_loops, spec_l01In_q p.1 p.2.1 p.2.2.1, spec_l01In_y p.1 p.2.1 p.2.2.1, spec_l01In_l⟩
  cases hk

def G4 : Glob := G3.add 94 spec_l01In_g

theorem G4_ok : GlobOk Try.prog G4 := G3_ok.add ⟨Try.f94, Try.func94, by kernel_rfl, by kernel_rfl⟩ spec_l01In_c



def spec_l01Long_loops : Nat → Option LoopSpec
  | 0 => some ⟨[0, 1, 5, 6], [], fun vals st k => onPats [.int .i64, .int .u8, .own 0, .int .i64] [.arr (.int .u8)] vals st (fun p q => loopK spec_l01Long_b0 Fuel (p.1, p.2.1, p.2.2.2.1, q.1) (fun z => k (.exit 0) [.int .i64 z.1, .int .u8 z.2.1, .own 0, .int .i64 z.2.2.1] [.arr (.int .u8) z.2.2.2]))
      (none)⟩
  | _ => none

def spec_l01Long_v0 : (Int × Int × Int × (List Int)) → List AV := (fun x => [.int .i64 x.1, .int .u8 x.2.1, .own 0, .int .i64 x.2.2.1])
def spec_l01Long_s0 : (Int × Int × Int × (List Int)) → St := (fun x => [.arr (.int .u8) x.2.2.2])
def spec_l01Long_e0 : (Int × Int × Int × (List Int)) → Out × List AV × St := (fun z => ((.exit 0), [.int .i64 z.1, .int .u8 z.2.1, .own 0, .int .i64 z.2.2.1], [.arr (.int .u8) z.2.2.2]))

theorem spec_l01Long_bx0 (x : (Int × Int × Int × (List Int))) : exec G4 ⟨0, 20, spec_l01Long_loops⟩ (loopBody Try.f212 0) (bodyK ⟨0, 20, spec_l01Long_loops⟩ [0, 1, 5, 6] []) (setEs (deads 20) [0, 1, 5, 6] (spec_l01Long_v0 x)) (spec_l01Long_s0 x) = spec_l01Long_b0 x (Sum.elim (fun y => some ⟨.norm, spec_l01Long_v0 y, spec_l01Long_s0 y⟩) fun z => some ⟨(spec_l01Long_e0 z).1, (spec_l01Long_e0 z).2.1, (spec_l01Long_e0 z).2.2⟩) := by
  kernel_rfl

theorem spec_l01Long_lo0 : ∀ sp, (spec_l01Long_loops 0) = some sp → LoopOk G4 ⟨0, 20, spec_l01Long_loops⟩ sp (loopBody Try.f212 0) := by
  intro sp hsp vals st k r h
  cases hsp
  dsimp only at h
  rcases onPats_inv2 h with ⟨p, q, rfl, rfl, h⟩ | h
  · exact loop_runs2 spec_l01Long_bp0 spec_l01Long_v0 spec_l01Long_s0 spec_l01Long_e0 (fun z => by (intro h; cases h)) spec_l01Long_bx0 Fuel (p.1, p.2.1, p.2.2.2.1, q.1) _ k r (fun z => rfl) h
  cases h

theorem spec_l01Long_y (a0 : Int) (a1 : Int) : execFn G4 spec_l01Long_loops Try.f212 [.int .i64 a0, .int .u8 a1] [] = spec_l01Long_k a0 a1 (fun (y : ByteArray) => some ⟨.ret, [.str y], []⟩) := by rw [spec_l01Long_e]; kernel_rfl

theorem spec_l01Long_l : LoopsOk G4 ⟨0, 20, spec_l01Long_loops⟩ (Try.f212.body.getD .skip) :=
  loopsOk_of (ids := [0]) (by kernel_rfl) (by kernel_rfl) ⟨spec_l01Long_lo0, trivial⟩

theorem spec_l01Long_c : Contract Try.prog 212 spec_l01Long_g := by
  refine told G4_ok follows Try.func212 (c := Try.f212.body.getD .skip) (by kernel_rfl) ?_
  intro args s k r hk
  unfold spec_l01Long_g at hk
  rcases onPats_inv hk with ⟨p, q, rfl, rfl⟩ | hk
  · exact ⟨spec_l01Long_loops, spec_l01Long_q p.1 p.2.1, spec_l01Long_y p.1 p.2.1, spec_l01Long_l⟩
  cases hk

def G5 : Glob := G4.add 212 spec_l01Long_g

theorem G5_ok : GlobOk Try.prog G5 := G4_ok.add ⟨Try.f212, Try.func212, by kernel_rfl, by kernel_rfl⟩ spec_l01Long_c



def spec_l03Zero_loops : Nat → Option LoopSpec
  | _ => none

theorem spec_l03Zero_y  : execFn G5 spec_l03Zero_loops Try.f252 [] [] = spec_l03Zero_k  (fun (y : ByteArray) => some ⟨.ret, [.str y], []⟩) := by rw [spec_l03Zero_e]; kernel_rfl

theorem spec_l03Zero_l : LoopsOk G5 ⟨0, 2, spec_l03Zero_loops⟩ (Try.f252.body.getD .skip) :=
  loopsOk_of (ids := []) (by kernel_rfl) (by kernel_rfl) trivial

theorem spec_l03Zero_c : Contract Try.prog 252 spec_l03Zero_g := by
  refine told G5_ok follows Try.func252 (c := Try.f252.body.getD .skip) (by kernel_rfl) ?_
  intro args s k r hk
  unfold spec_l03Zero_g at hk
  rcases onPats_inv hk with ⟨p, q, rfl, rfl⟩ | hk
  · exact ⟨spec_l03Zero_loops, spec_l03Zero_q , spec_l03Zero_y , spec_l03Zero_l⟩
  cases hk

def G6 : Glob := G5.add 252 spec_l03Zero_g

theorem G6_ok : GlobOk Try.prog G6 := G5_ok.add ⟨Try.f252, Try.func252, by kernel_rfl, by kernel_rfl⟩ spec_l03Zero_c



def spec_DiskNew_loops : Nat → Option LoopSpec
  | 0 => some ⟨[0, 2, 4, 5], [none, none, none, none, none, none, some .str], fun vals st k => onPats [.int .i64, .bp 0 0, .bp 1 0, .int .i64] [.box [.nilS, .nilS], .box [.own 2, .nilS], .arr .str] vals st (fun p q => loopK spec_DiskNew_b0 Fuel (p.1, p.2.2.2.1, q.2.2.1) (fun z => k (.exit 0) [.int .i64 z.1, .bp 0 0, .bp 1 0, .int .i64 z.2.1] [.box [.nilS, .nilS], .box [.own 2, .nilS], .arr .str z.2.2]))
      (none)⟩
  | 3000000 => some ⟨[], [some .str], fun _ _ _ => none⟩
  | _ => none

def spec_DiskNew_v0 : (Int × Int × (List ByteArray)) → List AV := (fun x => [.int .i64 x.1, .bp 0 0, .bp 1 0, .int .i64 x.2.1])
def spec_DiskNew_s0 : (Int × Int × (List ByteArray)) → St := (fun x => [.box [.nilS, .nilS], .box [.own 2, .nilS], .arr .str x.2.2])
def spec_DiskNew_e0 : (Int × Int × (List ByteArray)) → Out × List AV × St := (fun z => ((.exit 0), [.int .i64 z.1, .bp 0 0, .bp 1 0, .int .i64 z.2.1], [.box [.nilS, .nilS], .box [.own 2, .nilS], .arr .str z.2.2]))

theorem spec_DiskNew_bx0 (x : (Int × Int × (List ByteArray))) : exec G6 ⟨0, 23, spec_DiskNew_loops⟩ (loopBody Try.f187 0) (bodyK ⟨0, 23, spec_DiskNew_loops⟩ [0, 2, 4, 5] [none, none, none, none, none, none, some .str]) (setEs (deads 23) [0, 2, 4, 5] (spec_DiskNew_v0 x)) (spec_DiskNew_s0 x) = spec_DiskNew_b0 x (Sum.elim (fun y => some ⟨.norm, spec_DiskNew_v0 y, spec_DiskNew_s0 y⟩) fun z => some ⟨(spec_DiskNew_e0 z).1, (spec_DiskNew_e0 z).2.1, (spec_DiskNew_e0 z).2.2⟩) := by
  kernel_rfl

theorem spec_DiskNew_lo0 : ∀ sp, (spec_DiskNew_loops 0) = some sp → LoopOk G6 ⟨0, 23, spec_DiskNew_loops⟩ sp (loopBody Try.f187 0) := by
  intro sp hsp vals st k r h
  cases hsp
  dsimp only at h
  rcases onPats_inv2 h with ⟨p, q, rfl, rfl, h⟩ | h
  · exact loop_runs2 spec_DiskNew_bp0 spec_DiskNew_v0 spec_DiskNew_s0 spec_DiskNew_e0 (fun z => by (intro h; cases h)) spec_DiskNew_bx0 Fuel (p.1, p.2.2.2.1, q.2.2.1) _ k r (fun z => rfl) h
  cases h

theorem spec_DiskNew_y (a0 : Int) : execFn G6 spec_DiskNew_loops Try.f187 [.int .i64 a0] [] = spec_DiskNew_k a0 (fun (y : (Bool × (List ByteArray))) => some ⟨.ret, [.tup [.agg [.own 0, .nilS], .bool y.1]], [.arr .str y.2]⟩) := by rw [spec_DiskNew_e]; kernel_rfl

theorem spec_DiskNew_l : LoopsOk G6 ⟨0, 23, spec_DiskNew_loops⟩ (Try.f187.body.getD .skip) :=
  loopsOk_of (ids := [0]) (by kernel_rfl) (by kernel_rfl) ⟨spec_DiskNew_lo0, trivial⟩

theorem spec_DiskNew_c : Contract Try.prog 187 spec_DiskNew_g := by
  refine told G6_ok follows Try.func187 (c := Try.f187.body.getD .skip) (by kernel_rfl) ?_
  intro args s k r hk
  unfold spec_DiskNew_g at hk
  rcases onPats_inv hk with ⟨p, q, rfl, rfl⟩ | hk
  · exact ⟨spec_DiskNew_loops, spec_DiskNew_q p.1, spec_DiskNew_y p.1, spec_DiskNew_l⟩
  cases hk

def G7 : Glob := G6.add 187 spec_DiskNew_g

theorem G7_ok : GlobOk Try.prog G7 := G6_ok.add ⟨Try.f187, Try.func187, by kernel_rfl, by kernel_rfl⟩ spec_DiskNew_c



def spec_LogNew_loops : Nat → Option LoopSpec
  | _ => none

theorem spec_LogNew_y  : execFn G7 spec_LogNew_loops Try.f106 [] [] = spec_LogNew_k  (fun (y : (List ByteArray)) => some ⟨.ret, [.agg [.own 0, .nilS]], [.arr .str y]⟩) := by rw [spec_LogNew_e]; kernel_rfl

theorem spec_LogNew_l : LoopsOk G7 ⟨0, 9, spec_LogNew_loops⟩ (Try.f106.body.getD .skip) :=
  loopsOk_of (ids := []) (by kernel_rfl) (by kernel_rfl) trivial

theorem spec_LogNew_c : Contract Try.prog 106 spec_LogNew_g := by
  refine told G7_ok follows Try.func106 (c := Try.f106.body.getD .skip) (by kernel_rfl) ?_
  intro args s k r hk
  unfold spec_LogNew_g at hk
  rcases onPats_inv hk with ⟨p, q, rfl, rfl⟩ | hk
  · exact ⟨spec_LogNew_loops, spec_LogNew_q , spec_LogNew_y , spec_LogNew_l⟩
  cases hk

def G8 : Glob := G7.add 106 spec_LogNew_g

theorem G8_ok : GlobOk Try.prog G8 := G7_ok.add ⟨Try.f106, Try.func106, by kernel_rfl, by kernel_rfl⟩ spec_LogNew_c



def spec_StoreNew_loops : Nat → Option LoopSpec
  | _ => none

theorem spec_StoreNew_y  : execFn G8 spec_StoreNew_loops Try.f42 [] [] = spec_StoreNew_k  (fun (y : (Int × Int × (List ByteArray))) => some ⟨.ret, [.agg [.nilS, .nilS, .nilS, .int .i64 y.1, .int .i64 y.2.1, .nilS, .own 0, .nilS]], [.arr .str y.2.2]⟩) := by rw [spec_StoreNew_e]; kernel_rfl

theorem spec_StoreNew_l : LoopsOk G8 ⟨0, 4, spec_StoreNew_loops⟩ (Try.f42.body.getD .skip) :=
  loopsOk_of (ids := []) (by kernel_rfl) (by kernel_rfl) trivial

theorem spec_StoreNew_c : Contract Try.prog 42 spec_StoreNew_g := by
  refine told G8_ok follows Try.func42 (c := Try.f42.body.getD .skip) (by kernel_rfl) ?_
  intro args s k r hk
  unfold spec_StoreNew_g at hk
  rcases onPats_inv hk with ⟨p, q, rfl, rfl⟩ | hk
  · exact ⟨spec_StoreNew_loops, spec_StoreNew_q , spec_StoreNew_y , spec_StoreNew_l⟩
  cases hk

def G9 : Glob := G8.add 42 spec_StoreNew_g

theorem G9_ok : GlobOk Try.prog G9 := G8_ok.add ⟨Try.f42, Try.func42, by kernel_rfl, by kernel_rfl⟩ spec_StoreNew_c



def impl_BaseNew_loops : Nat → Option LoopSpec
  | _ => none

theorem impl_BaseNew_y  : execFn G9 impl_BaseNew_loops Try.f189 [] [] = impl_BaseNew_k  (fun (y : (Int × Int)) => some ⟨.ret, [.agg [.nilS, .nilS, .nilS, .int .i64 y.1, .int .i64 y.2]], []⟩) := by rw [impl_BaseNew_e]; kernel_rfl

theorem impl_BaseNew_l : LoopsOk G9 ⟨0, 2, impl_BaseNew_loops⟩ (Try.f189.body.getD .skip) :=
  loopsOk_of (ids := []) (by kernel_rfl) (by kernel_rfl) trivial

theorem impl_BaseNew_c : Contract Try.prog 189 impl_BaseNew_g := by
  refine told G9_ok follows Try.func189 (c := Try.f189.body.getD .skip) (by kernel_rfl) ?_
  intro args s k r hk
  unfold impl_BaseNew_g at hk
  rcases onPats_inv hk with ⟨p, q, rfl, rfl⟩ | hk
  · exact ⟨impl_BaseNew_loops, impl_BaseNew_q , impl_BaseNew_y , impl_BaseNew_l⟩
  cases hk

def G10 : Glob := G9.add 189 impl_BaseNew_g

theorem G10_ok : GlobOk Try.prog G10 := G9_ok.add ⟨Try.f189, Try.func189, by kernel_rfl, by kernel_rfl⟩ impl_BaseNew_c



def impl_EngineNew_loops : Nat → Option LoopSpec
  | _ => none

theorem impl_EngineNew_y  : execFn G10 impl_EngineNew_loops Try.f107 [] [] = impl_EngineNew_k  (fun (y : (Int × Int)) => some ⟨.ret, [.agg [.nilS, .nilS, .nilS, .int .i64 y.1, .int .i64 y.2, .nilS]], []⟩) := by rw [impl_EngineNew_e]; kernel_rfl

theorem impl_EngineNew_l : LoopsOk G10 ⟨0, 3, impl_EngineNew_loops⟩ (Try.f107.body.getD .skip) :=
  loopsOk_of (ids := []) (by kernel_rfl) (by kernel_rfl) trivial

theorem impl_EngineNew_c : Contract Try.prog 107 impl_EngineNew_g := by
  refine told G10_ok follows Try.func107 (c := Try.f107.body.getD .skip) (by kernel_rfl) ?_
  intro args s k r hk
  unfold impl_EngineNew_g at hk
  rcases onPats_inv hk with ⟨p, q, rfl, rfl⟩ | hk
  · exact ⟨impl_EngineNew_loops, impl_EngineNew_q , impl_EngineNew_y , impl_EngineNew_l⟩
  cases hk

def G11 : Glob := G10.add 107 impl_EngineNew_g

theorem G11_ok : GlobOk Try.prog G11 := G10_ok.add ⟨Try.f107, Try.func107, by kernel_rfl, by kernel_rfl⟩ impl_EngineNew_c



def impl_within_loops : Nat → Option LoopSpec
  | _ => none

theorem impl_within_y (a0 : Int) (a1 : Int) (a2 : Int) : execFn G11 impl_within_loops Try.f145 [.int .i64 a0, .int .i64 a1, .int .i64 a2] [] = impl_within_k a0 a1 a2 (fun (y : Bool) => some ⟨.ret, [.bool y], []⟩) := by rw [impl_within_e]; kernel_rfl

theorem impl_within_l : LoopsOk G11 ⟨0, 15, impl_within_loops⟩ (Try.f145.body.getD .skip) :=
  loopsOk_of (ids := []) (by kernel_rfl) (by kernel_rfl) trivial

theorem impl_within_c : Contract Try.prog 145 impl_within_g := by
  refine told G11_ok follows Try.func145 (c := Try.f145.body.getD .skip) (by kernel_rfl) ?_
  intro args s k r hk
  unfold impl_within_g at hk
  rcases onPats_inv hk with ⟨p, q, rfl, rfl⟩ | hk
  · exact ⟨impl_within_loops, impl_within_q p.1 p.2.1 p.2.2.1, impl_within_y p.1 p.2.1 p.2.2.1, impl_within_l⟩
  cases hk

def G12 : Glob := G11.add 145 impl_within_g

theorem G12_ok : GlobOk Try.prog G12 := G11_ok.add ⟨Try.f145, Try.func145, by kernel_rfl, by kernel_rfl⟩ impl_within_c



theorem strings_Repeat_c : Contract Try.prog 253 strings_Repeat_g := by
  intro args s k r hk
  unfold strings_Repeat_g at hk
  rw [strings_Repeat_e] at hk
  unfold strings_Repeat_d at hk
  have e : Try.laysRepeat_ren.f 105 = 253 := by kernel_rfl
  exact e ▸ repeat_contract Try.laysRepeat Try.repExtra args s k r hk

def G13 : Glob := G12.add 253 strings_Repeat_g

theorem G13_ok : GlobOk Try.prog G13 := G12_ok.add ⟨Try.f253, Try.func253, by kernel_rfl, by kernel_rfl⟩ strings_Repeat_c



def impl_DiskNew_loops : Nat → Option LoopSpec
  | 0 => some ⟨[0, 2, 4, 5], [none, none, none, none, none, none, some .str], fun vals st k => onPats [.int .i64, .bp 0 0, .bp 1 0, .int .i64] [.box [.nilS, .nilS], .box [.own 2, .nilS], .arr .str] vals st (fun p q => loopK impl_DiskNew_b0 Fuel (p.1, p.2.2.2.1, q.2.2.1) (fun z => k (.exit 0) [.int .i64 z.1, .bp 0 0, .bp 1 0, .int .i64 z.2.1] [.box [.nilS, .nilS], .box [.own 2, .nilS], .arr .str z.2.2]))
      (none)⟩
  | 3000000 => some ⟨[], [some .str], fun _ _ _ => none⟩
  | _ => none

def impl_DiskNew_v0 : (Int × Int × (List ByteArray)) → List AV := (fun x => [.int .i64 x.1, .bp 0 0, .bp 1 0, .int .i64 x.2.1])
def impl_DiskNew_s0 : (Int × Int × (List ByteArray)) → St := (fun x => [.box [.nilS, .nilS], .box [.own 2, .nilS], .arr .str x.2.2])
def impl_DiskNew_e0 : (Int × Int × (List ByteArray)) → Out × List AV × St := (fun z => ((.exit 0), [.int .i64 z.1, .bp 0 0, .bp 1 0, .int .i64 z.2.1], [.box [.nilS, .nilS], .box [.own 2, .nilS], .arr .str z.2.2]))

theorem impl_DiskNew_bx0 (x : (Int × Int × (List ByteArray))) : exec G13 ⟨0, 22, impl_DiskNew_loops⟩ (loopBody Try.f190 0) (bodyK ⟨0, 22, impl_DiskNew_loops⟩ [0, 2, 4, 5] [none, none, none, none, none, none, some .str]) (setEs (deads 22) [0, 2, 4, 5] (impl_DiskNew_v0 x)) (impl_DiskNew_s0 x) = impl_DiskNew_b0 x (Sum.elim (fun y => some ⟨.norm, impl_DiskNew_v0 y, impl_DiskNew_s0 y⟩) fun z => some ⟨(impl_DiskNew_e0 z).1, (impl_DiskNew_e0 z).2.1, (impl_DiskNew_e0 z).2.2⟩) := by
  kernel_rfl

theorem impl_DiskNew_lo0 : ∀ sp, (impl_DiskNew_loops 0) = some sp → LoopOk G13 ⟨0, 22, impl_DiskNew_loops⟩ sp (loopBody Try.f190 0) := by
  intro sp hsp vals st k r h
  cases hsp
  dsimp only at h
  rcases onPats_inv2 h with ⟨p, q, rfl, rfl, h⟩ | h
  · exact loop_runs2 impl_DiskNew_bp0 impl_DiskNew_v0 impl_DiskNew_s0 impl_DiskNew_e0 (fun z => by (intro h; cases h)) impl_DiskNew_bx0 Fuel (p.1, p.2.2.2.1, q.2.2.1) _ k r (fun z => rfl) h
  cases h

theorem impl_DiskNew_y (a0 : Int) : execFn G13 impl_DiskNew_loops Try.f190 [.int .i64 a0] [] = impl_DiskNew_k a0 (fun (y : (Bool × (List ByteArray))) => some ⟨.ret, [.tup [.agg [.own 0, .nilS], .bool y.1]], [.arr .str y.2]⟩) := by rw [impl_DiskNew_e]; kernel_rfl

theorem impl_DiskNew_l : LoopsOk G13 ⟨0, 22, impl_DiskNew_loops⟩ (Try.f190.body.getD .skip) :=
  loopsOk_of (ids := [0]) (by kernel_rfl) (by kernel_rfl) ⟨impl_DiskNew_lo0, trivial⟩

theorem impl_DiskNew_c : Contract Try.prog 190 impl_DiskNew_g := by
  refine told G13_ok follows Try.func190 (c := Try.f190.body.getD .skip) (by kernel_rfl) ?_
  intro args s k r hk
  unfold impl_DiskNew_g at hk
  rcases onPats_inv hk with ⟨p, q, rfl, rfl⟩ | hk
  · exact ⟨impl_DiskNew_loops, impl_DiskNew_q p.1, impl_DiskNew_y p.1, impl_DiskNew_l⟩
  cases hk

def G14 : Glob := G13.add 190 impl_DiskNew_g

theorem G14_ok : GlobOk Try.prog G14 := G13_ok.add ⟨Try.f190, Try.func190, by kernel_rfl, by kernel_rfl⟩ impl_DiskNew_c



def impl_LogNew_loops : Nat → Option LoopSpec
  | _ => none

theorem impl_LogNew_y  : execFn G14 impl_LogNew_loops Try.f108 [] [] = impl_LogNew_k  (fun (y : (List ByteArray)) => some ⟨.ret, [.agg [.own 0, .nilS]], [.arr .str y]⟩) := by rw [impl_LogNew_e]; kernel_rfl

theorem impl_LogNew_l : LoopsOk G14 ⟨0, 8, impl_LogNew_loops⟩ (Try.f108.body.getD .skip) :=
  loopsOk_of (ids := []) (by kernel_rfl) (by kernel_rfl) trivial

theorem impl_LogNew_c : Contract Try.prog 108 impl_LogNew_g := by
  refine told G14_ok follows Try.func108 (c := Try.f108.body.getD .skip) (by kernel_rfl) ?_
  intro args s k r hk
  unfold impl_LogNew_g at hk
  rcases onPats_inv hk with ⟨p, q, rfl, rfl⟩ | hk
  · exact ⟨impl_LogNew_loops, impl_LogNew_q , impl_LogNew_y , impl_LogNew_l⟩
  cases hk

def G15 : Glob := G14.add 108 impl_LogNew_g

theorem G15_ok : GlobOk Try.prog G15 := G14_ok.add ⟨Try.f108, Try.func108, by kernel_rfl, by kernel_rfl⟩ impl_LogNew_c



def impl_StoreNew_loops : Nat → Option LoopSpec
  | _ => none

theorem impl_StoreNew_y  : execFn G15 impl_StoreNew_loops Try.f43 [] [] = impl_StoreNew_k  (fun (y : (Int × Int × (List ByteArray))) => some ⟨.ret, [.agg [.nilS, .nilS, .nilS, .int .i64 y.1, .int .i64 y.2.1, .nilS, .own 0, .nilS]], [.arr .str y.2.2]⟩) := by rw [impl_StoreNew_e]; kernel_rfl

theorem impl_StoreNew_l : LoopsOk G15 ⟨0, 4, impl_StoreNew_loops⟩ (Try.f43.body.getD .skip) :=
  loopsOk_of (ids := []) (by kernel_rfl) (by kernel_rfl) trivial

theorem impl_StoreNew_c : Contract Try.prog 43 impl_StoreNew_g := by
  refine told G15_ok follows Try.func43 (c := Try.f43.body.getD .skip) (by kernel_rfl) ?_
  intro args s k r hk
  unfold impl_StoreNew_g at hk
  rcases onPats_inv hk with ⟨p, q, rfl, rfl⟩ | hk
  · exact ⟨impl_StoreNew_loops, impl_StoreNew_q , impl_StoreNew_y , impl_StoreNew_l⟩
  cases hk

def G16 : Glob := G15.add 43 impl_StoreNew_g

theorem G16_ok : GlobOk Try.prog G16 := G15_ok.add ⟨Try.f43, Try.func43, by kernel_rfl, by kernel_rfl⟩ impl_StoreNew_c



def laws_eqVersion_loops : Nat → Option LoopSpec
  | _ => none

theorem laws_eqVersion_y (a0 : ByteArray) (a1 : ByteArray) (a2 : Bool) (a3 : Int) (a4 : ByteArray) (a5 : ByteArray) (a6 : Bool) (a7 : Int) : execFn G16 laws_eqVersion_loops Try.f198 [.agg [.str a0, .str a1, .bool a2, .int .i64 a3], .agg [.str a4, .str a5, .bool a6, .int .i64 a7]] [] = laws_eqVersion_k (a0, (a1, (a2, a3))) (a4, (a5, (a6, a7))) (fun (y : Bool) => some ⟨.ret, [.bool y], []⟩) := by rw [laws_eqVersion_e]; kernel_rfl

theorem laws_eqVersion_l : LoopsOk G16 ⟨0, 25, laws_eqVersion_loops⟩ (Try.f198.body.getD .skip) :=
  loopsOk_of (ids := []) (by kernel_rfl) (by kernel_rfl) trivial

theorem laws_eqVersion_c : Contract Try.prog 198 laws_eqVersion_g := by
  refine told G16_ok follows Try.func198 (c := Try.f198.body.getD .skip) (by kernel_rfl) ?_
  intro args s k r hk
  unfold laws_eqVersion_g at hk
  rcases onPats_inv hk with ⟨p, q, rfl, rfl⟩ | hk
  · exact ⟨laws_eqVersion_loops, laws_eqVersion_q p.1.1 p.1.2.1 p.1.2.2.1 p.1.2.2.2.1 p.2.1.1 p.2.1.2.1 p.2.1.2.2.1 p.2.1.2.2.2.1, laws_eqVersion_y p.1.1 p.1.2.1 p.1.2.2.1 p.1.2.2.2.1 p.2.1.1 p.2.1.2.1 p.2.1.2.2.1 p.2.1.2.2.2.1, laws_eqVersion_l⟩
  cases hk

def G17 : Glob := G16.add 198 laws_eqVersion_g

theorem G17_ok : GlobOk Try.prog G17 := G16_ok.add ⟨Try.f198, Try.func198, by kernel_rfl, by kernel_rfl⟩ laws_eqVersion_c



def laws_eqVersionS_loops : Nat → Option LoopSpec
  | 0 => some ⟨[0, 1, 4, 5], [], fun vals st k => onPats [.lst tVersion, .lst tVersion, .bool, .int .i64] [] vals st (fun p q => loopK laws_eqVersionS_b0 Fuel (p.1, p.2.1, p.2.2.1, p.2.2.2.1) (Sum.elim (fun z => k .ret [.lst tVersion z.1, .lst tVersion z.2.1, .bool z.2.2.1, .int .i64 z.2.2.2] []) (fun z => k (.exit 0) [.lst tVersion z.1, .lst tVersion z.2.1, .bool z.2.2.1, .int .i64 z.2.2.2] [])))
      (none)⟩
  | 2000006 => some ⟨[0, 2, 4, 6, 8, 10, 12, 14, 16, 18], [], fun _ _ _ => none⟩
  | _ => none

def laws_eqVersionS_v0 : ((List dVersion) × (List dVersion) × Bool × Int) → List AV := (fun x => [.lst tVersion x.1, .lst tVersion x.2.1, .bool x.2.2.1, .int .i64 x.2.2.2])
def laws_eqVersionS_s0 : ((List dVersion) × (List dVersion) × Bool × Int) → St := (fun x => [])
def laws_eqVersionS_e0 : (((List dVersion) × (List dVersion) × Bool × Int) ⊕ ((List dVersion) × (List dVersion) × Bool × Int)) → Out × List AV × St := (Sum.elim (fun z => (.ret, [.lst tVersion z.1, .lst tVersion z.2.1, .bool z.2.2.1, .int .i64 z.2.2.2], [])) (fun z => ((.exit 0), [.lst tVersion z.1, .lst tVersion z.2.1, .bool z.2.2.1, .int .i64 z.2.2.2], [])))

theorem laws_eqVersionS_bx0 (x : ((List dVersion) × (List dVersion) × Bool × Int)) : exec G17 ⟨0, 27, laws_eqVersionS_loops⟩ (loopBody Try.f121 0) (bodyK ⟨0, 27, laws_eqVersionS_loops⟩ [0, 1, 4, 5] []) (setEs (deads 27) [0, 1, 4, 5] (laws_eqVersionS_v0 x)) (laws_eqVersionS_s0 x) = laws_eqVersionS_b0 x (Sum.elim (fun y => some ⟨.norm, laws_eqVersionS_v0 y, laws_eqVersionS_s0 y⟩) fun z => some ⟨(laws_eqVersionS_e0 z).1, (laws_eqVersionS_e0 z).2.1, (laws_eqVersionS_e0 z).2.2⟩) := by
  kernel_rfl

theorem laws_eqVersionS_lo0 : ∀ sp, (laws_eqVersionS_loops 0) = some sp → LoopOk G17 ⟨0, 27, laws_eqVersionS_loops⟩ sp (loopBody Try.f121 0) := by
  intro sp hsp vals st k r h
  cases hsp
  dsimp only at h
  rcases onPats_inv2 h with ⟨p, q, rfl, rfl, h⟩ | h
  · exact loop_runs2 laws_eqVersionS_bp0 laws_eqVersionS_v0 laws_eqVersionS_s0 laws_eqVersionS_e0 (fun z => by rcases z with z | z <;> (intro h; cases h)) laws_eqVersionS_bx0 Fuel (p.1, p.2.1, p.2.2.1, p.2.2.2.1) _ k r (fun z => by rcases z with z | z <;> rfl) h
  cases h

theorem laws_eqVersionS_y (a0 : (List dVersion)) (a1 : (List dVersion)) : execFn G17 laws_eqVersionS_loops Try.f121 [.lst tVersion a0, .lst tVersion a1] [] = laws_eqVersionS_k a0 a1 (fun (y : Bool) => some ⟨.ret, [.bool y], []⟩) := by rw [laws_eqVersionS_e]; kernel_rfl

theorem laws_eqVersionS_l : LoopsOk G17 ⟨0, 27, laws_eqVersionS_loops⟩ (Try.f121.body.getD .skip) :=
  loopsOk_of (ids := [0]) (by kernel_rfl) (by kernel_rfl) ⟨laws_eqVersionS_lo0, trivial⟩

theorem laws_eqVersionS_c : Contract Try.prog 121 laws_eqVersionS_g := by
  refine told G17_ok follows Try.func121 (c := Try.f121.body.getD .skip) (by kernel_rfl) ?_
  intro args s k r hk
  unfold laws_eqVersionS_g at hk
  rcases onPats_inv hk with ⟨p, q, rfl, rfl⟩ | hk
  · exact ⟨laws_eqVersionS_loops, laws_eqVersionS_q p.1 p.2.1, laws_eqVersionS_y p.1 p.2.1, laws_eqVersionS_l⟩
  cases hk

def G18 : Glob := G17.add 121 laws_eqVersionS_g

theorem G18_ok : GlobOk Try.prog G18 := G17_ok.add ⟨Try.f121, Try.func121, by kernel_rfl, by kernel_rfl⟩ laws_eqVersionS_c



def laws_eqRange_loops : Nat → Option LoopSpec
  | _ => none

theorem laws_eqRange_y (a0 : ByteArray) (a1 : ByteArray) (a2 : ByteArray) (a3 : ByteArray) : execFn G18 laws_eqRange_loops Try.f250 [.agg [.str a0, .str a1], .agg [.str a2, .str a3]] [] = laws_eqRange_k (a0, a1) (a2, a3) (fun (y : Bool) => some ⟨.ret, [.bool y], []⟩) := by rw [laws_eqRange_e]; kernel_rfl

theorem laws_eqRange_l : LoopsOk G18 ⟨0, 15, laws_eqRange_loops⟩ (Try.f250.body.getD .skip) :=
  loopsOk_of (ids := []) (by kernel_rfl) (by kernel_rfl) trivial

theorem laws_eqRange_c : Contract Try.prog 250 laws_eqRange_g := by
  refine told G18_ok follows Try.func250 (c := Try.f250.body.getD .skip) (by kernel_rfl) ?_
  intro args s k r hk
  unfold laws_eqRange_g at hk
  rcases onPats_inv hk with ⟨p, q, rfl, rfl⟩ | hk
  · exact ⟨laws_eqRange_loops, laws_eqRange_q p.1.1 p.1.2.1 p.2.1.1 p.2.1.2.1, laws_eqRange_y p.1.1 p.1.2.1 p.2.1.1 p.2.1.2.1, laws_eqRange_l⟩
  cases hk

def G19 : Glob := G18.add 250 laws_eqRange_g

theorem G19_ok : GlobOk Try.prog G19 := G18_ok.add ⟨Try.f250, Try.func250, by kernel_rfl, by kernel_rfl⟩ laws_eqRange_c



def laws_eqRangeS_loops : Nat → Option LoopSpec
  | 0 => some ⟨[0, 1, 4, 5], [], fun vals st k => onPats [.lst tRange, .lst tRange, .bool, .int .i64] [] vals st (fun p q => loopK laws_eqRangeS_b0 Fuel (p.1, p.2.1, p.2.2.1, p.2.2.2.1) (Sum.elim (fun z => k .ret [.lst tRange z.1, .lst tRange z.2.1, .bool z.2.2.1, .int .i64 z.2.2.2] []) (fun z => k (.exit 0) [.lst tRange z.1, .lst tRange z.2.1, .bool z.2.2.1, .int .i64 z.2.2.2] [])))
      (none)⟩
  | 2000006 => some ⟨[0, 2, 4, 6, 8, 10, 12, 14, 16, 18], [], fun _ _ _ => none⟩
  | _ => none

def laws_eqRangeS_v0 : ((List dRange) × (List dRange) × Bool × Int) → List AV := (fun x => [.lst tRange x.1, .lst tRange x.2.1, .bool x.2.2.1, .int .i64 x.2.2.2])
def laws_eqRangeS_s0 : ((List dRange) × (List dRange) × Bool × Int) → St := (fun x => [])
def laws_eqRangeS_e0 : (((List dRange) × (List dRange) × Bool × Int) ⊕ ((List dRange) × (List dRange) × Bool × Int)) → Out × List AV × St := (Sum.elim (fun z => (.ret, [.lst tRange z.1, .lst tRange z.2.1, .bool z.2.2.1, .int .i64 z.2.2.2], [])) (fun z => ((.exit 0), [.lst tRange z.1, .lst tRange z.2.1, .bool z.2.2.1, .int .i64 z.2.2.2], [])))

theorem laws_eqRangeS_bx0 (x : ((List dRange) × (List dRange) × Bool × Int)) : exec G19 ⟨0, 27, laws_eqRangeS_loops⟩ (loopBody Try.f184 0) (bodyK ⟨0, 27, laws_eqRangeS_loops⟩ [0, 1, 4, 5] []) (setEs (deads 27) [0, 1, 4, 5] (laws_eqRangeS_v0 x)) (laws_eqRangeS_s0 x) = laws_eqRangeS_b0 x (Sum.elim (fun y => some ⟨.norm, laws_eqRangeS_v0 y, laws_eqRangeS_s0 y⟩) fun z => some ⟨(laws_eqRangeS_e0 z).1, (laws_eqRangeS_e0 z).2.1, (laws_eqRangeS_e0 z).2.2⟩) := by
  kernel_rfl

theorem laws_eqRangeS_lo0 : ∀ sp, (laws_eqRangeS_loops 0) = some sp → LoopOk G19 ⟨0, 27, laws_eqRangeS_loops⟩ sp (loopBody Try.f184 0) := by
  intro sp hsp vals st k r h
  cases hsp
  dsimp only at h
  rcases onPats_inv2 h with ⟨p, q, rfl, rfl, h⟩ | h
  · exact loop_runs2 laws_eqRangeS_bp0 laws_eqRangeS_v0 laws_eqRangeS_s0 laws_eqRangeS_e0 (fun z => by rcases z with z | z <;> (intro h; cases h)) laws_eqRangeS_bx0 Fuel (p.1, p.2.1, p.2.2.1, p.2.2.2.1) _ k r (fun z => by rcases z with z | z <;> rfl) h
  cases h

theorem laws_eqRangeS_y (a0 : (List dRange)) (a1 : (List dRange)) : execFn G19 laws_eqRangeS_loops Try.f184 [.lst tRange a0, .lst tRange a1] [] = laws_eqRangeS_k a0 a1 (fun (y : Bool) => some ⟨.ret, [.bool y], []⟩) := by rw [laws_eqRangeS_e]; kernel_rfl

theorem laws_eqRangeS_l : LoopsOk G19 ⟨0, 27, laws_eqRangeS_loops⟩ (Try.f184.body.getD .skip) :=
  loopsOk_of (ids := [0]) (by kernel_rfl) (by kernel_rfl) ⟨laws_eqRangeS_lo0, trivial⟩

theorem laws_eqRangeS_c : Contract Try.prog 184 laws_eqRangeS_g := by
  refine told G19_ok follows Try.func184 (c := Try.f184.body.getD .skip) (by kernel_rfl) ?_
  intro args s k r hk
  unfold laws_eqRangeS_g at hk
  rcases onPats_inv hk with ⟨p, q, rfl, rfl⟩ | hk
  · exact ⟨laws_eqRangeS_loops, laws_eqRangeS_q p.1 p.2.1, laws_eqRangeS_y p.1 p.2.1, laws_eqRangeS_l⟩
  cases hk

def G20 : Glob := G19.add 184 laws_eqRangeS_g

theorem G20_ok : GlobOk Try.prog G20 := G19_ok.add ⟨Try.f184, Try.func184, by kernel_rfl, by kernel_rfl⟩ laws_eqRangeS_c



def laws_eqWrite_loops : Nat → Option LoopSpec
  | _ => none

theorem laws_eqWrite_y (a0 : ByteArray) (a1 : ByteArray) (a2 : Bool) (a3 : ByteArray) (a4 : ByteArray) (a5 : Bool) : execFn G20 laws_eqWrite_loops Try.f251 [.agg [.str a0, .str a1, .bool a2], .agg [.str a3, .str a4, .bool a5]] [] = laws_eqWrite_k (a0, (a1, a2)) (a3, (a4, a5)) (fun (y : Bool) => some ⟨.ret, [.bool y], []⟩) := by rw [laws_eqWrite_e]; kernel_rfl

theorem laws_eqWrite_l : LoopsOk G20 ⟨0, 20, laws_eqWrite_loops⟩ (Try.f251.body.getD .skip) :=
  loopsOk_of (ids := []) (by kernel_rfl) (by kernel_rfl) trivial

theorem laws_eqWrite_c : Contract Try.prog 251 laws_eqWrite_g := by
  refine told G20_ok follows Try.func251 (c := Try.f251.body.getD .skip) (by kernel_rfl) ?_
  intro args s k r hk
  unfold laws_eqWrite_g at hk
  rcases onPats_inv hk with ⟨p, q, rfl, rfl⟩ | hk
  · exact ⟨laws_eqWrite_loops, laws_eqWrite_q p.1.1 p.1.2.1 p.1.2.2.1 p.2.1.1 p.2.1.2.1 p.2.1.2.2.1, laws_eqWrite_y p.1.1 p.1.2.1 p.1.2.2.1 p.2.1.1 p.2.1.2.1 p.2.1.2.2.1, laws_eqWrite_l⟩
  cases hk

def G21 : Glob := G20.add 251 laws_eqWrite_g

theorem G21_ok : GlobOk Try.prog G21 := G20_ok.add ⟨Try.f251, Try.func251, by kernel_rfl, by kernel_rfl⟩ laws_eqWrite_c



def laws_eqWriteS_loops : Nat → Option LoopSpec
  | 0 => some ⟨[0, 1, 4, 5], [], fun vals st k => onPats [.lst tWrite, .lst tWrite, .bool, .int .i64] [] vals st (fun p q => loopK laws_eqWriteS_b0 Fuel (p.1, p.2.1, p.2.2.1, p.2.2.2.1) (Sum.elim (fun z => k .ret [.lst tWrite z.1, .lst tWrite z.2.1, .bool z.2.2.1, .int .i64 z.2.2.2] []) (fun z => k (.exit 0) [.lst tWrite z.1, .lst tWrite z.2.1, .bool z.2.2.1, .int .i64 z.2.2.2] [])))
      (none)⟩
  | 2000006 => some ⟨[0, 2, 4, 6, 8, 10, 12, 14, 16, 18], [], fun _ _ _ => none⟩
  | _ => none

def laws_eqWriteS_v0 : ((List dWrite) × (List dWrite) × Bool × Int) → List AV := (fun x => [.lst tWrite x.1, .lst tWrite x.2.1, .bool x.2.2.1, .int .i64 x.2.2.2])
def laws_eqWriteS_s0 : ((List dWrite) × (List dWrite) × Bool × Int) → St := (fun x => [])
def laws_eqWriteS_e0 : (((List dWrite) × (List dWrite) × Bool × Int) ⊕ ((List dWrite) × (List dWrite) × Bool × Int)) → Out × List AV × St := (Sum.elim (fun z => (.ret, [.lst tWrite z.1, .lst tWrite z.2.1, .bool z.2.2.1, .int .i64 z.2.2.2], [])) (fun z => ((.exit 0), [.lst tWrite z.1, .lst tWrite z.2.1, .bool z.2.2.1, .int .i64 z.2.2.2], [])))

theorem laws_eqWriteS_bx0 (x : ((List dWrite) × (List dWrite) × Bool × Int)) : exec G21 ⟨0, 27, laws_eqWriteS_loops⟩ (loopBody Try.f185 0) (bodyK ⟨0, 27, laws_eqWriteS_loops⟩ [0, 1, 4, 5] []) (setEs (deads 27) [0, 1, 4, 5] (laws_eqWriteS_v0 x)) (laws_eqWriteS_s0 x) = laws_eqWriteS_b0 x (Sum.elim (fun y => some ⟨.norm, laws_eqWriteS_v0 y, laws_eqWriteS_s0 y⟩) fun z => some ⟨(laws_eqWriteS_e0 z).1, (laws_eqWriteS_e0 z).2.1, (laws_eqWriteS_e0 z).2.2⟩) := by
  kernel_rfl

theorem laws_eqWriteS_lo0 : ∀ sp, (laws_eqWriteS_loops 0) = some sp → LoopOk G21 ⟨0, 27, laws_eqWriteS_loops⟩ sp (loopBody Try.f185 0) := by
  intro sp hsp vals st k r h
  cases hsp
  dsimp only at h
  rcases onPats_inv2 h with ⟨p, q, rfl, rfl, h⟩ | h
  · exact loop_runs2 laws_eqWriteS_bp0 laws_eqWriteS_v0 laws_eqWriteS_s0 laws_eqWriteS_e0 (fun z => by rcases z with z | z <;> (intro h; cases h)) laws_eqWriteS_bx0 Fuel (p.1, p.2.1, p.2.2.1, p.2.2.2.1) _ k r (fun z => by rcases z with z | z <;> rfl) h
  cases h

theorem laws_eqWriteS_y (a0 : (List dWrite)) (a1 : (List dWrite)) : execFn G21 laws_eqWriteS_loops Try.f185 [.lst tWrite a0, .lst tWrite a1] [] = laws_eqWriteS_k a0 a1 (fun (y : Bool) => some ⟨.ret, [.bool y], []⟩) := by rw [laws_eqWriteS_e]; kernel_rfl

theorem laws_eqWriteS_l : LoopsOk G21 ⟨0, 27, laws_eqWriteS_loops⟩ (Try.f185.body.getD .skip) :=
  loopsOk_of (ids := [0]) (by kernel_rfl) (by kernel_rfl) ⟨laws_eqWriteS_lo0, trivial⟩

theorem laws_eqWriteS_c : Contract Try.prog 185 laws_eqWriteS_g := by
  refine told G21_ok follows Try.func185 (c := Try.f185.body.getD .skip) (by kernel_rfl) ?_
  intro args s k r hk
  unfold laws_eqWriteS_g at hk
  rcases onPats_inv hk with ⟨p, q, rfl, rfl⟩ | hk
  · exact ⟨laws_eqWriteS_loops, laws_eqWriteS_q p.1 p.2.1, laws_eqWriteS_y p.1 p.2.1, laws_eqWriteS_l⟩
  cases hk

def G22 : Glob := G21.add 185 laws_eqWriteS_g

theorem G22_ok : GlobOk Try.prog G22 := G21_ok.add ⟨Try.f185, Try.func185, by kernel_rfl, by kernel_rfl⟩ laws_eqWriteS_c



def laws_eqTxn_loops : Nat → Option LoopSpec
  | _ => none

theorem laws_eqTxn_y (a0 : Int) (a1 : Int) (a2 : Int) (a3 : Int) (a4 : (List dRange)) (a5 : (List dWrite)) (a6 : Bool) (a7 : ByteArray) (a8 : Int) (a9 : Int) (a10 : Int) (a11 : Int) (a12 : (List dRange)) (a13 : (List dWrite)) (a14 : Bool) (a15 : ByteArray) : execFn G22 laws_eqTxn_loops Try.f104 [.agg [.int .i64 a0, .int .i64 a1, .int .i64 a2, .int .i64 a3, .lst tRange a4, .lst tWrite a5, .bool a6, .str a7], .agg [.int .i64 a8, .int .i64 a9, .int .i64 a10, .int .i64 a11, .lst tRange a12, .lst tWrite a13, .bool a14, .str a15]] [] = laws_eqTxn_k (a0, (a1, (a2, (a3, (a4, (a5, (a6, a7))))))) (a8, (a9, (a10, (a11, (a12, (a13, (a14, a15))))))) (fun (y : Bool) => some ⟨.ret, [.bool y], []⟩) := by rw [laws_eqTxn_e]; kernel_rfl

theorem laws_eqTxn_l : LoopsOk G22 ⟨0, 47, laws_eqTxn_loops⟩ (Try.f104.body.getD .skip) :=
  loopsOk_of (ids := []) (by kernel_rfl) (by kernel_rfl) trivial

theorem laws_eqTxn_c : Contract Try.prog 104 laws_eqTxn_g := by
  refine told G22_ok follows Try.func104 (c := Try.f104.body.getD .skip) (by kernel_rfl) ?_
  intro args s k r hk
  unfold laws_eqTxn_g at hk
  rcases onPats_inv hk with ⟨p, q, rfl, rfl⟩ | hk
  · exact ⟨laws_eqTxn_loops, laws_eqTxn_q p.1.1 p.1.2.1 p.1.2.2.1 p.1.2.2.2.1 p.1.2.2.2.2.1 p.1.2.2.2.2.2.1 p.1.2.2.2.2.2.2.1 p.1.2.2.2.2.2.2.2.1 p.2.1.1 p.2.1.2.1 p.2.1.2.2.1 p.2.1.2.2.2.1 p.2.1.2.2.2.2.1 p.2.1.2.2.2.2.2.1 p.2.1.2.2.2.2.2.2.1 p.2.1.2.2.2.2.2.2.2.1, laws_eqTxn_y p.1.1 p.1.2.1 p.1.2.2.1 p.1.2.2.2.1 p.1.2.2.2.2.1 p.1.2.2.2.2.2.1 p.1.2.2.2.2.2.2.1 p.1.2.2.2.2.2.2.2.1 p.2.1.1 p.2.1.2.1 p.2.1.2.2.1 p.2.1.2.2.2.1 p.2.1.2.2.2.2.1 p.2.1.2.2.2.2.2.1 p.2.1.2.2.2.2.2.2.1 p.2.1.2.2.2.2.2.2.2.1, laws_eqTxn_l⟩
  cases hk

def G23 : Glob := G22.add 104 laws_eqTxn_g

theorem G23_ok : GlobOk Try.prog G23 := G22_ok.add ⟨Try.f104, Try.func104, by kernel_rfl, by kernel_rfl⟩ laws_eqTxn_c



def laws_eqTxnS_loops : Nat → Option LoopSpec
  | 0 => some ⟨[0, 1, 4, 5], [], fun vals st k => onPats [.lst tTxn, .lst tTxn, .bool, .int .i64] [] vals st (fun p q => loopK laws_eqTxnS_b0 Fuel (p.1, p.2.1, p.2.2.1, p.2.2.2.1) (Sum.elim (fun z => k .ret [.lst tTxn z.1, .lst tTxn z.2.1, .bool z.2.2.1, .int .i64 z.2.2.2] []) (fun z => k (.exit 0) [.lst tTxn z.1, .lst tTxn z.2.1, .bool z.2.2.1, .int .i64 z.2.2.2] [])))
      (none)⟩
  | 2000006 => some ⟨[0, 2, 4, 6, 8, 10, 12, 14, 16, 18], [], fun _ _ _ => none⟩
  | _ => none

def laws_eqTxnS_v0 : ((List dTxn) × (List dTxn) × Bool × Int) → List AV := (fun x => [.lst tTxn x.1, .lst tTxn x.2.1, .bool x.2.2.1, .int .i64 x.2.2.2])
def laws_eqTxnS_s0 : ((List dTxn) × (List dTxn) × Bool × Int) → St := (fun x => [])
def laws_eqTxnS_e0 : (((List dTxn) × (List dTxn) × Bool × Int) ⊕ ((List dTxn) × (List dTxn) × Bool × Int)) → Out × List AV × St := (Sum.elim (fun z => (.ret, [.lst tTxn z.1, .lst tTxn z.2.1, .bool z.2.2.1, .int .i64 z.2.2.2], [])) (fun z => ((.exit 0), [.lst tTxn z.1, .lst tTxn z.2.1, .bool z.2.2.1, .int .i64 z.2.2.2], [])))

theorem laws_eqTxnS_bx0 (x : ((List dTxn) × (List dTxn) × Bool × Int)) : exec G23 ⟨0, 27, laws_eqTxnS_loops⟩ (loopBody Try.f52 0) (bodyK ⟨0, 27, laws_eqTxnS_loops⟩ [0, 1, 4, 5] []) (setEs (deads 27) [0, 1, 4, 5] (laws_eqTxnS_v0 x)) (laws_eqTxnS_s0 x) = laws_eqTxnS_b0 x (Sum.elim (fun y => some ⟨.norm, laws_eqTxnS_v0 y, laws_eqTxnS_s0 y⟩) fun z => some ⟨(laws_eqTxnS_e0 z).1, (laws_eqTxnS_e0 z).2.1, (laws_eqTxnS_e0 z).2.2⟩) := by
  kernel_rfl

theorem laws_eqTxnS_lo0 : ∀ sp, (laws_eqTxnS_loops 0) = some sp → LoopOk G23 ⟨0, 27, laws_eqTxnS_loops⟩ sp (loopBody Try.f52 0) := by
  intro sp hsp vals st k r h
  cases hsp
  dsimp only at h
  rcases onPats_inv2 h with ⟨p, q, rfl, rfl, h⟩ | h
  · exact loop_runs2 laws_eqTxnS_bp0 laws_eqTxnS_v0 laws_eqTxnS_s0 laws_eqTxnS_e0 (fun z => by rcases z with z | z <;> (intro h; cases h)) laws_eqTxnS_bx0 Fuel (p.1, p.2.1, p.2.2.1, p.2.2.2.1) _ k r (fun z => by rcases z with z | z <;> rfl) h
  cases h

theorem laws_eqTxnS_y (a0 : (List dTxn)) (a1 : (List dTxn)) : execFn G23 laws_eqTxnS_loops Try.f52 [.lst tTxn a0, .lst tTxn a1] [] = laws_eqTxnS_k a0 a1 (fun (y : Bool) => some ⟨.ret, [.bool y], []⟩) := by rw [laws_eqTxnS_e]; kernel_rfl

theorem laws_eqTxnS_l : LoopsOk G23 ⟨0, 27, laws_eqTxnS_loops⟩ (Try.f52.body.getD .skip) :=
  loopsOk_of (ids := [0]) (by kernel_rfl) (by kernel_rfl) ⟨laws_eqTxnS_lo0, trivial⟩

theorem laws_eqTxnS_c : Contract Try.prog 52 laws_eqTxnS_g := by
  refine told G23_ok follows Try.func52 (c := Try.f52.body.getD .skip) (by kernel_rfl) ?_
  intro args s k r hk
  unfold laws_eqTxnS_g at hk
  rcases onPats_inv hk with ⟨p, q, rfl, rfl⟩ | hk
  · exact ⟨laws_eqTxnS_loops, laws_eqTxnS_q p.1 p.2.1, laws_eqTxnS_y p.1 p.2.1, laws_eqTxnS_l⟩
  cases hk

def G24 : Glob := G23.add 52 laws_eqTxnS_g

theorem G24_ok : GlobOk Try.prog G24 := G23_ok.add ⟨Try.f52, Try.func52, by kernel_rfl, by kernel_rfl⟩ laws_eqTxnS_c



def laws_eqBase_loops : Nat → Option LoopSpec
  | _ => none

theorem laws_eqBase_y (a0 : (List dVersion)) (a1 : (List dTxn)) (a2 : (List dTxn)) (a3 : Int) (a4 : Int) (a5 : (List dVersion)) (a6 : (List dTxn)) (a7 : (List dTxn)) (a8 : Int) (a9 : Int) : execFn G24 laws_eqBase_loops Try.f51 [.agg [.lst tVersion a0, .lst tTxn a1, .lst tTxn a2, .int .i64 a3, .int .i64 a4], .agg [.lst tVersion a5, .lst tTxn a6, .lst tTxn a7, .int .i64 a8, .int .i64 a9]] [] = laws_eqBase_k (a0, (a1, (a2, (a3, a4)))) (a5, (a6, (a7, (a8, a9)))) (fun (y : Bool) => some ⟨.ret, [.bool y], []⟩) := by rw [laws_eqBase_e]; kernel_rfl

theorem laws_eqBase_l : LoopsOk G24 ⟨0, 33, laws_eqBase_loops⟩ (Try.f51.body.getD .skip) :=
  loopsOk_of (ids := []) (by kernel_rfl) (by kernel_rfl) trivial

theorem laws_eqBase_c : Contract Try.prog 51 laws_eqBase_g := by
  refine told G24_ok follows Try.func51 (c := Try.f51.body.getD .skip) (by kernel_rfl) ?_
  intro args s k r hk
  unfold laws_eqBase_g at hk
  rcases onPats_inv hk with ⟨p, q, rfl, rfl⟩ | hk
  · exact ⟨laws_eqBase_loops, laws_eqBase_q p.1.1 p.1.2.1 p.1.2.2.1 p.1.2.2.2.1 p.1.2.2.2.2.1 p.2.1.1 p.2.1.2.1 p.2.1.2.2.1 p.2.1.2.2.2.1 p.2.1.2.2.2.2.1, laws_eqBase_y p.1.1 p.1.2.1 p.1.2.2.1 p.1.2.2.2.1 p.1.2.2.2.2.1 p.2.1.1 p.2.1.2.1 p.2.1.2.2.1 p.2.1.2.2.2.1 p.2.1.2.2.2.2.1, laws_eqBase_l⟩
  cases hk

def G25 : Glob := G24.add 51 laws_eqBase_g

theorem G25_ok : GlobOk Try.prog G25 := G24_ok.add ⟨Try.f51, Try.func51, by kernel_rfl, by kernel_rfl⟩ laws_eqBase_c



def laws_eqEngine_loops : Nat → Option LoopSpec
  | _ => none

theorem laws_eqEngine_y (a0 : (List dVersion)) (a1 : (List dTxn)) (a2 : (List dTxn)) (a3 : Int) (a4 : Int) (a5 : (List dTxn)) (a6 : (List dVersion)) (a7 : (List dTxn)) (a8 : (List dTxn)) (a9 : Int) (a10 : Int) (a11 : (List dTxn)) : execFn G25 laws_eqEngine_loops Try.f27 [.agg [.lst tVersion a0, .lst tTxn a1, .lst tTxn a2, .int .i64 a3, .int .i64 a4, .lst tTxn a5], .agg [.lst tVersion a6, .lst tTxn a7, .lst tTxn a8, .int .i64 a9, .int .i64 a10, .lst tTxn a11]] [] = laws_eqEngine_k ((a0, (a1, (a2, (a3, a4)))), a5) ((a6, (a7, (a8, (a9, a10)))), a11) (fun (y : Bool) => some ⟨.ret, [.bool y], []⟩) := by rw [laws_eqEngine_e]; kernel_rfl

theorem laws_eqEngine_l : LoopsOk G25 ⟨0, 17, laws_eqEngine_loops⟩ (Try.f27.body.getD .skip) :=
  loopsOk_of (ids := []) (by kernel_rfl) (by kernel_rfl) trivial

theorem laws_eqEngine_c : Contract Try.prog 27 laws_eqEngine_g := by
  refine told G25_ok follows Try.func27 (c := Try.f27.body.getD .skip) (by kernel_rfl) ?_
  intro args s k r hk
  unfold laws_eqEngine_g at hk
  rcases onPats_inv hk with ⟨p, q, rfl, rfl⟩ | hk
  · exact ⟨laws_eqEngine_loops, laws_eqEngine_q p.1.1 p.1.2.1 p.1.2.2.1 p.1.2.2.2.1 p.1.2.2.2.2.1 p.1.2.2.2.2.2.1 p.2.1.1 p.2.1.2.1 p.2.1.2.2.1 p.2.1.2.2.2.1 p.2.1.2.2.2.2.1 p.2.1.2.2.2.2.2.1, laws_eqEngine_y p.1.1 p.1.2.1 p.1.2.2.1 p.1.2.2.2.1 p.1.2.2.2.2.1 p.1.2.2.2.2.2.1 p.2.1.1 p.2.1.2.1 p.2.1.2.2.1 p.2.1.2.2.2.1 p.2.1.2.2.2.2.1 p.2.1.2.2.2.2.2.1, laws_eqEngine_l⟩
  cases hk

def G26 : Glob := G25.add 27 laws_eqEngine_g

theorem G26_ok : GlobOk Try.prog G26 := G25_ok.add ⟨Try.f27, Try.func27, by kernel_rfl, by kernel_rfl⟩ laws_eqEngine_c



def laws_eqStringS_loops : Nat → Option LoopSpec
  | 0 => some ⟨[0, 1, 4, 5], [], fun vals st k => onPats [.lst .str, .lst .str, .bool, .int .i64] [] vals st (fun p q => loopK laws_eqStringS_b0 Fuel (p.1, p.2.1, p.2.2.1, p.2.2.2.1) (Sum.elim (fun z => k .ret [.lst .str z.1, .lst .str z.2.1, .bool z.2.2.1, .int .i64 z.2.2.2] []) (fun z => k (.exit 0) [.lst .str z.1, .lst .str z.2.1, .bool z.2.2.1, .int .i64 z.2.2.2] [])))
      (none)⟩
  | 2000006 => some ⟨[0, 2, 4, 6, 8, 10, 12, 14, 16], [], fun _ _ _ => none⟩
  | _ => none

def laws_eqStringS_v0 : ((List ByteArray) × (List ByteArray) × Bool × Int) → List AV := (fun x => [.lst .str x.1, .lst .str x.2.1, .bool x.2.2.1, .int .i64 x.2.2.2])
def laws_eqStringS_s0 : ((List ByteArray) × (List ByteArray) × Bool × Int) → St := (fun x => [])
def laws_eqStringS_e0 : (((List ByteArray) × (List ByteArray) × Bool × Int) ⊕ ((List ByteArray) × (List ByteArray) × Bool × Int)) → Out × List AV × St := (Sum.elim (fun z => (.ret, [.lst .str z.1, .lst .str z.2.1, .bool z.2.2.1, .int .i64 z.2.2.2], [])) (fun z => ((.exit 0), [.lst .str z.1, .lst .str z.2.1, .bool z.2.2.1, .int .i64 z.2.2.2], [])))

theorem laws_eqStringS_bx0 (x : ((List ByteArray) × (List ByteArray) × Bool × Int)) : exec G26 ⟨0, 26, laws_eqStringS_loops⟩ (loopBody Try.f18 0) (bodyK ⟨0, 26, laws_eqStringS_loops⟩ [0, 1, 4, 5] []) (setEs (deads 26) [0, 1, 4, 5] (laws_eqStringS_v0 x)) (laws_eqStringS_s0 x) = laws_eqStringS_b0 x (Sum.elim (fun y => some ⟨.norm, laws_eqStringS_v0 y, laws_eqStringS_s0 y⟩) fun z => some ⟨(laws_eqStringS_e0 z).1, (laws_eqStringS_e0 z).2.1, (laws_eqStringS_e0 z).2.2⟩) := by
  kernel_rfl

theorem laws_eqStringS_lo0 : ∀ sp, (laws_eqStringS_loops 0) = some sp → LoopOk G26 ⟨0, 26, laws_eqStringS_loops⟩ sp (loopBody Try.f18 0) := by
  intro sp hsp vals st k r h
  cases hsp
  dsimp only at h
  rcases onPats_inv2 h with ⟨p, q, rfl, rfl, h⟩ | h
  · exact loop_runs2 laws_eqStringS_bp0 laws_eqStringS_v0 laws_eqStringS_s0 laws_eqStringS_e0 (fun z => by rcases z with z | z <;> (intro h; cases h)) laws_eqStringS_bx0 Fuel (p.1, p.2.1, p.2.2.1, p.2.2.2.1) _ k r (fun z => by rcases z with z | z <;> rfl) h
  cases h

theorem laws_eqStringS_y (a0 : (List ByteArray)) (a1 : (List ByteArray)) : execFn G26 laws_eqStringS_loops Try.f18 [.lst .str a0, .lst .str a1] [] = laws_eqStringS_k a0 a1 (fun (y : Bool) => some ⟨.ret, [.bool y], []⟩) := by rw [laws_eqStringS_e]; kernel_rfl

theorem laws_eqStringS_l : LoopsOk G26 ⟨0, 26, laws_eqStringS_loops⟩ (Try.f18.body.getD .skip) :=
  loopsOk_of (ids := [0]) (by kernel_rfl) (by kernel_rfl) ⟨laws_eqStringS_lo0, trivial⟩

theorem laws_eqStringS_c : Contract Try.prog 18 laws_eqStringS_g := by
  refine told G26_ok follows Try.func18 (c := Try.f18.body.getD .skip) (by kernel_rfl) ?_
  intro args s k r hk
  unfold laws_eqStringS_g at hk
  rcases onPats_inv hk with ⟨p, q, rfl, rfl⟩ | hk
  · exact ⟨laws_eqStringS_loops, laws_eqStringS_q p.1 p.2.1, laws_eqStringS_y p.1 p.2.1, laws_eqStringS_l⟩
  cases hk

def G27 : Glob := G26.add 18 laws_eqStringS_g

theorem G27_ok : GlobOk Try.prog G27 := G26_ok.add ⟨Try.f18, Try.func18, by kernel_rfl, by kernel_rfl⟩ laws_eqStringS_c



def laws_eqPut_loops : Nat → Option LoopSpec
  | _ => none

theorem laws_eqPut_y (a0 : Int) (a1 : ByteArray) (a2 : Int) (a3 : ByteArray) : execFn G27 laws_eqPut_loops Try.f230 [.agg [.int .i64 a0, .str a1], .agg [.int .i64 a2, .str a3]] [] = laws_eqPut_k (a0, a1) (a2, a3) (fun (y : Bool) => some ⟨.ret, [.bool y], []⟩) := by rw [laws_eqPut_e]; kernel_rfl

theorem laws_eqPut_l : LoopsOk G27 ⟨0, 15, laws_eqPut_loops⟩ (Try.f230.body.getD .skip) :=
  loopsOk_of (ids := []) (by kernel_rfl) (by kernel_rfl) trivial

theorem laws_eqPut_c : Contract Try.prog 230 laws_eqPut_g := by
  refine told G27_ok follows Try.func230 (c := Try.f230.body.getD .skip) (by kernel_rfl) ?_
  intro args s k r hk
  unfold laws_eqPut_g at hk
  rcases onPats_inv hk with ⟨p, q, rfl, rfl⟩ | hk
  · exact ⟨laws_eqPut_loops, laws_eqPut_q p.1.1 p.1.2.1 p.2.1.1 p.2.1.2.1, laws_eqPut_y p.1.1 p.1.2.1 p.2.1.1 p.2.1.2.1, laws_eqPut_l⟩
  cases hk

def G28 : Glob := G27.add 230 laws_eqPut_g

theorem G28_ok : GlobOk Try.prog G28 := G27_ok.add ⟨Try.f230, Try.func230, by kernel_rfl, by kernel_rfl⟩ laws_eqPut_c



def laws_eqPutS_loops : Nat → Option LoopSpec
  | 0 => some ⟨[0, 1, 4, 5], [], fun vals st k => onPats [.lst tPut, .lst tPut, .bool, .int .i64] [] vals st (fun p q => loopK laws_eqPutS_b0 Fuel (p.1, p.2.1, p.2.2.1, p.2.2.2.1) (Sum.elim (fun z => k .ret [.lst tPut z.1, .lst tPut z.2.1, .bool z.2.2.1, .int .i64 z.2.2.2] []) (fun z => k (.exit 0) [.lst tPut z.1, .lst tPut z.2.1, .bool z.2.2.1, .int .i64 z.2.2.2] [])))
      (none)⟩
  | 2000006 => some ⟨[0, 2, 4, 6, 8, 10, 12, 14, 16, 18], [], fun _ _ _ => none⟩
  | _ => none

def laws_eqPutS_v0 : ((List dPut) × (List dPut) × Bool × Int) → List AV := (fun x => [.lst tPut x.1, .lst tPut x.2.1, .bool x.2.2.1, .int .i64 x.2.2.2])
def laws_eqPutS_s0 : ((List dPut) × (List dPut) × Bool × Int) → St := (fun x => [])
def laws_eqPutS_e0 : (((List dPut) × (List dPut) × Bool × Int) ⊕ ((List dPut) × (List dPut) × Bool × Int)) → Out × List AV × St := (Sum.elim (fun z => (.ret, [.lst tPut z.1, .lst tPut z.2.1, .bool z.2.2.1, .int .i64 z.2.2.2], [])) (fun z => ((.exit 0), [.lst tPut z.1, .lst tPut z.2.1, .bool z.2.2.1, .int .i64 z.2.2.2], [])))

theorem laws_eqPutS_bx0 (x : ((List dPut) × (List dPut) × Bool × Int)) : exec G28 ⟨0, 27, laws_eqPutS_loops⟩ (loopBody Try.f162 0) (bodyK ⟨0, 27, laws_eqPutS_loops⟩ [0, 1, 4, 5] []) (setEs (deads 27) [0, 1, 4, 5] (laws_eqPutS_v0 x)) (laws_eqPutS_s0 x) = laws_eqPutS_b0 x (Sum.elim (fun y => some ⟨.norm, laws_eqPutS_v0 y, laws_eqPutS_s0 y⟩) fun z => some ⟨(laws_eqPutS_e0 z).1, (laws_eqPutS_e0 z).2.1, (laws_eqPutS_e0 z).2.2⟩) := by
  kernel_rfl

theorem laws_eqPutS_lo0 : ∀ sp, (laws_eqPutS_loops 0) = some sp → LoopOk G28 ⟨0, 27, laws_eqPutS_loops⟩ sp (loopBody Try.f162 0) := by
  intro sp hsp vals st k r h
  cases hsp
  dsimp only at h
  rcases onPats_inv2 h with ⟨p, q, rfl, rfl, h⟩ | h
  · exact loop_runs2 laws_eqPutS_bp0 laws_eqPutS_v0 laws_eqPutS_s0 laws_eqPutS_e0 (fun z => by rcases z with z | z <;> (intro h; cases h)) laws_eqPutS_bx0 Fuel (p.1, p.2.1, p.2.2.1, p.2.2.2.1) _ k r (fun z => by rcases z with z | z <;> rfl) h
  cases h

theorem laws_eqPutS_y (a0 : (List dPut)) (a1 : (List dPut)) : execFn G28 laws_eqPutS_loops Try.f162 [.lst tPut a0, .lst tPut a1] [] = laws_eqPutS_k a0 a1 (fun (y : Bool) => some ⟨.ret, [.bool y], []⟩) := by rw [laws_eqPutS_e]; kernel_rfl

theorem laws_eqPutS_l : LoopsOk G28 ⟨0, 27, laws_eqPutS_loops⟩ (Try.f162.body.getD .skip) :=
  loopsOk_of (ids := [0]) (by kernel_rfl) (by kernel_rfl) ⟨laws_eqPutS_lo0, trivial⟩

theorem laws_eqPutS_c : Contract Try.prog 162 laws_eqPutS_g := by
  refine told G28_ok follows Try.func162 (c := Try.f162.body.getD .skip) (by kernel_rfl) ?_
  intro args s k r hk
  unfold laws_eqPutS_g at hk
  rcases onPats_inv hk with ⟨p, q, rfl, rfl⟩ | hk
  · exact ⟨laws_eqPutS_loops, laws_eqPutS_q p.1 p.2.1, laws_eqPutS_y p.1 p.2.1, laws_eqPutS_l⟩
  cases hk

def G29 : Glob := G28.add 162 laws_eqPutS_g

theorem G29_ok : GlobOk Try.prog G29 := G28_ok.add ⟨Try.f162, Try.func162, by kernel_rfl, by kernel_rfl⟩ laws_eqPutS_c



def laws_eqDisk_loops : Nat → Option LoopSpec
  | _ => none

theorem laws_eqDisk_y (a0 : (List ByteArray)) (a1 : (List dPut)) (a2 : (List ByteArray)) (a3 : (List dPut)) : execFn G29 laws_eqDisk_loops Try.f74 [.agg [.lst .str a0, .lst tPut a1], .agg [.lst .str a2, .lst tPut a3]] [] = laws_eqDisk_k (a0, a1) (a2, a3) (fun (y : Bool) => some ⟨.ret, [.bool y], []⟩) := by rw [laws_eqDisk_e]; kernel_rfl

theorem laws_eqDisk_l : LoopsOk G29 ⟨0, 17, laws_eqDisk_loops⟩ (Try.f74.body.getD .skip) :=
  loopsOk_of (ids := []) (by kernel_rfl) (by kernel_rfl) trivial

theorem laws_eqDisk_c : Contract Try.prog 74 laws_eqDisk_g := by
  refine told G29_ok follows Try.func74 (c := Try.f74.body.getD .skip) (by kernel_rfl) ?_
  intro args s k r hk
  unfold laws_eqDisk_g at hk
  rcases onPats_inv hk with ⟨p, q, rfl, rfl⟩ | hk
  · exact ⟨laws_eqDisk_loops, laws_eqDisk_q p.1.1 p.1.2.1 p.2.1.1 p.2.1.2.1, laws_eqDisk_y p.1.1 p.1.2.1 p.2.1.1 p.2.1.2.1, laws_eqDisk_l⟩
  cases hk

def G30 : Glob := G29.add 74 laws_eqDisk_g

theorem G30_ok : GlobOk Try.prog G30 := G29_ok.add ⟨Try.f74, Try.func74, by kernel_rfl, by kernel_rfl⟩ laws_eqDisk_c



def laws_eqStore_loops : Nat → Option LoopSpec
  | _ => none

theorem laws_eqStore_y (a0 : (List dVersion)) (a1 : (List dTxn)) (a2 : (List dTxn)) (a3 : Int) (a4 : Int) (a5 : (List dTxn)) (a6 : (List ByteArray)) (a7 : (List dPut)) (a8 : (List dVersion)) (a9 : (List dTxn)) (a10 : (List dTxn)) (a11 : Int) (a12 : Int) (a13 : (List dTxn)) (a14 : (List ByteArray)) (a15 : (List dPut)) : execFn G30 laws_eqStore_loops Try.f19 [.agg [.lst tVersion a0, .lst tTxn a1, .lst tTxn a2, .int .i64 a3, .int .i64 a4, .lst tTxn a5, .lst .str a6, .lst tPut a7], .agg [.lst tVersion a8, .lst tTxn a9, .lst tTxn a10, .int .i64 a11, .int .i64 a12, .lst tTxn a13, .lst .str a14, .lst tPut a15]] [] = laws_eqStore_k (((a0, (a1, (a2, (a3, a4)))), a5), (a6, a7)) (((a8, (a9, (a10, (a11, a12)))), a13), (a14, a15)) (fun (y : Bool) => some ⟨.ret, [.bool y], []⟩) := by rw [laws_eqStore_e]; kernel_rfl

theorem laws_eqStore_l : LoopsOk G30 ⟨0, 17, laws_eqStore_loops⟩ (Try.f19.body.getD .skip) :=
  loopsOk_of (ids := []) (by kernel_rfl) (by kernel_rfl) trivial

theorem laws_eqStore_c : Contract Try.prog 19 laws_eqStore_g := by
  refine told G30_ok follows Try.func19 (c := Try.f19.body.getD .skip) (by kernel_rfl) ?_
  intro args s k r hk
  unfold laws_eqStore_g at hk
  rcases onPats_inv hk with ⟨p, q, rfl, rfl⟩ | hk
  · exact ⟨laws_eqStore_loops, laws_eqStore_q p.1.1 p.1.2.1 p.1.2.2.1 p.1.2.2.2.1 p.1.2.2.2.2.1 p.1.2.2.2.2.2.1 p.1.2.2.2.2.2.2.1 p.1.2.2.2.2.2.2.2.1 p.2.1.1 p.2.1.2.1 p.2.1.2.2.1 p.2.1.2.2.2.1 p.2.1.2.2.2.2.1 p.2.1.2.2.2.2.2.1 p.2.1.2.2.2.2.2.2.1 p.2.1.2.2.2.2.2.2.2.1, laws_eqStore_y p.1.1 p.1.2.1 p.1.2.2.1 p.1.2.2.2.1 p.1.2.2.2.2.1 p.1.2.2.2.2.2.1 p.1.2.2.2.2.2.2.1 p.1.2.2.2.2.2.2.2.1 p.2.1.1 p.2.1.2.1 p.2.1.2.2.1 p.2.1.2.2.2.1 p.2.1.2.2.2.2.1 p.2.1.2.2.2.2.2.1 p.2.1.2.2.2.2.2.2.1 p.2.1.2.2.2.2.2.2.2.1, laws_eqStore_l⟩
  cases hk

def G31 : Glob := G30.add 19 laws_eqStore_g

theorem G31_ok : GlobOk Try.prog G31 := G30_ok.add ⟨Try.f19, Try.func19, by kernel_rfl, by kernel_rfl⟩ laws_eqStore_c



def laws_markText_loops : Nat → Option LoopSpec
  | 0 => some ⟨[0, 3], [], fun vals st k => onPats [.int .i64, .str] [] vals st (fun p q => loopK laws_markText_b0 Fuel (p.1, p.2.1) (fun z => k (.exit 0) [.int .i64 z.1, .str z.2] []))
      (none)⟩
  | _ => none

def laws_markText_v0 : (Int × ByteArray) → List AV := (fun x => [.int .i64 x.1, .str x.2])
def laws_markText_s0 : (Int × ByteArray) → St := (fun x => [])
def laws_markText_e0 : (Int × ByteArray) → Out × List AV × St := (fun z => ((.exit 0), [.int .i64 z.1, .str z.2], []))

theorem laws_markText_bx0 (x : (Int × ByteArray)) : exec G31 ⟨0, 20, laws_markText_loops⟩ (loopBody Try.f76 0) (bodyK ⟨0, 20, laws_markText_loops⟩ [0, 3] []) (setEs (deads 20) [0, 3] (laws_markText_v0 x)) (laws_markText_s0 x) = laws_markText_b0 x (Sum.elim (fun y => some ⟨.norm, laws_markText_v0 y, laws_markText_s0 y⟩) fun z => some ⟨(laws_markText_e0 z).1, (laws_markText_e0 z).2.1, (laws_markText_e0 z).2.2⟩) := by
  kernel_rfl

theorem laws_markText_lo0 : ∀ sp, (laws_markText_loops 0) = some sp → LoopOk G31 ⟨0, 20, laws_markText_loops⟩ sp (loopBody Try.f76 0) := by
  intro sp hsp vals st k r h
  cases hsp
  dsimp only at h
  rcases onPats_inv2 h with ⟨p, q, rfl, rfl, h⟩ | h
  · exact loop_runs2 laws_markText_bp0 laws_markText_v0 laws_markText_s0 laws_markText_e0 (fun z => by (intro h; cases h)) laws_markText_bx0 Fuel (p.1, p.2.1) _ k r (fun z => rfl) h
  cases h

theorem laws_markText_y (a0 : Int) : execFn G31 laws_markText_loops Try.f76 [.int .i64 a0] [] = laws_markText_k a0 (fun (y : ByteArray) => some ⟨.ret, [.str y], []⟩) := by rw [laws_markText_e]; kernel_rfl

theorem laws_markText_l : LoopsOk G31 ⟨0, 20, laws_markText_loops⟩ (Try.f76.body.getD .skip) :=
  loopsOk_of (ids := [0]) (by kernel_rfl) (by kernel_rfl) ⟨laws_markText_lo0, trivial⟩

theorem laws_markText_c : Contract Try.prog 76 laws_markText_g := by
  refine told G31_ok follows Try.func76 (c := Try.f76.body.getD .skip) (by kernel_rfl) ?_
  intro args s k r hk
  unfold laws_markText_g at hk
  rcases onPats_inv hk with ⟨p, q, rfl, rfl⟩ | hk
  · exact ⟨laws_markText_loops, laws_markText_q p.1, laws_markText_y p.1, laws_markText_l⟩
  cases hk

def G32 : Glob := G31.add 76 laws_markText_g

theorem G32_ok : GlobOk Try.prog G32 := G31_ok.add ⟨Try.f76, Try.func76, by kernel_rfl, by kernel_rfl⟩ laws_markText_c



def laws_markVersionS_vn_loops : Nat → Option LoopSpec
  | 0 => some ⟨[0, 1, 5], [], fun vals st k => onPats [.nilS, .int .i64, .int .i64] [] vals st (fun p q => loopK laws_markVersionS_vn_b0 Fuel (p.2.1, p.2.2.1) (fun z => k (.exit 0) [.nilS, .int .i64 z.1, .int .i64 z.2] []))
      (none)⟩
  | _ => none

def laws_markVersionS_vn_v0 : (Int × Int) → List AV := (fun x => [.nilS, .int .i64 x.1, .int .i64 x.2])
def laws_markVersionS_vn_s0 : (Int × Int) → St := (fun x => [])
def laws_markVersionS_vn_e0 : (Int × Int) → Out × List AV × St := (fun z => ((.exit 0), [.nilS, .int .i64 z.1, .int .i64 z.2], []))

theorem laws_markVersionS_vn_bx0 (x : (Int × Int)) : exec G32 ⟨0, 45, laws_markVersionS_vn_loops⟩ (loopBody Try.f122 0) (bodyK ⟨0, 45, laws_markVersionS_vn_loops⟩ [0, 1, 5] []) (setEs (deads 45) [0, 1, 5] (laws_markVersionS_vn_v0 x)) (laws_markVersionS_vn_s0 x) = laws_markVersionS_vn_b0 x (Sum.elim (fun y => some ⟨.norm, laws_markVersionS_vn_v0 y, laws_markVersionS_vn_s0 y⟩) fun z => some ⟨(laws_markVersionS_vn_e0 z).1, (laws_markVersionS_vn_e0 z).2.1, (laws_markVersionS_vn_e0 z).2.2⟩) := by
  kernel_rfl

theorem laws_markVersionS_vn_lo0 : ∀ sp, (laws_markVersionS_vn_loops 0) = some sp → LoopOk G32 ⟨0, 45, laws_markVersionS_vn_loops⟩ sp (loopBody Try.f122 0) := by
  intro sp hsp vals st k r h
  cases hsp
  dsimp only at h
  rcases onPats_inv2 h with ⟨p, q, rfl, rfl, h⟩ | h
  · exact loop_runs2 laws_markVersionS_vn_bp0 laws_markVersionS_vn_v0 laws_markVersionS_vn_s0 laws_markVersionS_vn_e0 (fun z => by (intro h; cases h)) laws_markVersionS_vn_bx0 Fuel (p.2.1, p.2.2.1) _ k r (fun z => rfl) h
  cases h

theorem laws_markVersionS_vn_y (a0 : Int) : execFn G32 laws_markVersionS_vn_loops Try.f122 [.nilS, .int .i64 a0] [] = laws_markVersionS_vn_k a0 (fun (y : Int) => some ⟨.ret, [.int .i64 y], []⟩) := by rw [laws_markVersionS_vn_e]; kernel_rfl

theorem laws_markVersionS_vn_l : LoopsOk G32 ⟨0, 45, laws_markVersionS_vn_loops⟩ (Try.f122.body.getD .skip) :=
  loopsOk_of (ids := [0]) (by kernel_rfl) (by kernel_rfl) ⟨laws_markVersionS_vn_lo0, trivial⟩

theorem laws_markVersionS_c : Contract Try.prog 122 laws_markVersionS_g := by
  refine told G32_ok follows Try.func122 (c := Try.f122.body.getD .skip) (by kernel_rfl) ?_
  intro args s k r hk
  unfold laws_markVersionS_g at hk
  rcases onPats_inv hk with ⟨p, q, rfl, rfl⟩ | hk
  · exact ⟨laws_markVersionS_vn_loops, laws_markVersionS_vn_q p.2.1, laws_markVersionS_vn_y p.2.1, laws_markVersionS_vn_l⟩
  cases hk

def G33 : Glob := G32.add 122 laws_markVersionS_g

theorem G33_ok : GlobOk Try.prog G33 := G32_ok.add ⟨Try.f122, Try.func122, by kernel_rfl, by kernel_rfl⟩ laws_markVersionS_c



def laws_markTxnS_vn_loops : Nat → Option LoopSpec
  | 0 => some ⟨[0, 1, 5], [], fun vals st k => onPats [.nilS, .int .i64, .int .i64] [] vals st (fun p q => loopK laws_markTxnS_vn_b0 Fuel (p.2.1, p.2.2.1) (fun z => k (.exit 0) [.nilS, .int .i64 z.1, .int .i64 z.2] []))
      (none)⟩
  | _ => none

def laws_markTxnS_vn_v0 : (Int × Int) → List AV := (fun x => [.nilS, .int .i64 x.1, .int .i64 x.2])
def laws_markTxnS_vn_s0 : (Int × Int) → St := (fun x => [])
def laws_markTxnS_vn_e0 : (Int × Int) → Out × List AV × St := (fun z => ((.exit 0), [.nilS, .int .i64 z.1, .int .i64 z.2], []))

theorem laws_markTxnS_vn_bx0 (x : (Int × Int)) : exec G33 ⟨0, 72, laws_markTxnS_vn_loops⟩ (loopBody Try.f54 0) (bodyK ⟨0, 72, laws_markTxnS_vn_loops⟩ [0, 1, 5] []) (setEs (deads 72) [0, 1, 5] (laws_markTxnS_vn_v0 x)) (laws_markTxnS_vn_s0 x) = laws_markTxnS_vn_b0 x (Sum.elim (fun y => some ⟨.norm, laws_markTxnS_vn_v0 y, laws_markTxnS_vn_s0 y⟩) fun z => some ⟨(laws_markTxnS_vn_e0 z).1, (laws_markTxnS_vn_e0 z).2.1, (laws_markTxnS_vn_e0 z).2.2⟩) := by
  kernel_rfl

theorem laws_markTxnS_vn_lo0 : ∀ sp, (laws_markTxnS_vn_loops 0) = some sp → LoopOk G33 ⟨0, 72, laws_markTxnS_vn_loops⟩ sp (loopBody Try.f54 0) := by
  intro sp hsp vals st k r h
  cases hsp
  dsimp only at h
  rcases onPats_inv2 h with ⟨p, q, rfl, rfl, h⟩ | h
  · exact loop_runs2 laws_markTxnS_vn_bp0 laws_markTxnS_vn_v0 laws_markTxnS_vn_s0 laws_markTxnS_vn_e0 (fun z => by (intro h; cases h)) laws_markTxnS_vn_bx0 Fuel (p.2.1, p.2.2.1) _ k r (fun z => rfl) h
  cases h

theorem laws_markTxnS_vn_y (a0 : Int) : execFn G33 laws_markTxnS_vn_loops Try.f54 [.nilS, .int .i64 a0] [] = laws_markTxnS_vn_k a0 (fun (y : Int) => some ⟨.ret, [.int .i64 y], []⟩) := by rw [laws_markTxnS_vn_e]; kernel_rfl

theorem laws_markTxnS_vn_l : LoopsOk G33 ⟨0, 72, laws_markTxnS_vn_loops⟩ (Try.f54.body.getD .skip) :=
  loopsOk_of (ids := [0]) (by kernel_rfl) (by kernel_rfl) ⟨laws_markTxnS_vn_lo0, trivial⟩

theorem laws_markTxnS_c : Contract Try.prog 54 laws_markTxnS_g := by
  refine told G33_ok follows Try.func54 (c := Try.f54.body.getD .skip) (by kernel_rfl) ?_
  intro args s k r hk
  unfold laws_markTxnS_g at hk
  rcases onPats_inv hk with ⟨p, q, rfl, rfl⟩ | hk
  · exact ⟨laws_markTxnS_vn_loops, laws_markTxnS_vn_q p.2.1, laws_markTxnS_vn_y p.2.1, laws_markTxnS_vn_l⟩
  cases hk

def G34 : Glob := G33.add 54 laws_markTxnS_g

theorem G34_ok : GlobOk Try.prog G34 := G33_ok.add ⟨Try.f54, Try.func54, by kernel_rfl, by kernel_rfl⟩ laws_markTxnS_c



def laws_markBase_va_loops : Nat → Option LoopSpec
  | _ => none

theorem laws_markBase_va_y (a0 : Int) (a1 : Int) (a2 : Int) : execFn G34 laws_markBase_va_loops Try.f53 [.agg [.nilS, .nilS, .nilS, .int .i64 a0, .int .i64 a1], .int .i64 a2] [] = laws_markBase_va_k a0 a1 a2 (fun (y : Int) => some ⟨.ret, [.int .i64 y], []⟩) := by rw [laws_markBase_va_e]; kernel_rfl

theorem laws_markBase_va_l : LoopsOk G34 ⟨0, 18, laws_markBase_va_loops⟩ (Try.f53.body.getD .skip) :=
  loopsOk_of (ids := []) (by kernel_rfl) (by kernel_rfl) trivial

theorem laws_markBase_c : Contract Try.prog 53 laws_markBase_g := by
  refine told G34_ok follows Try.func53 (c := Try.f53.body.getD .skip) (by kernel_rfl) ?_
  intro args s k r hk
  unfold laws_markBase_g at hk
  rcases onPats_inv hk with ⟨p, q, rfl, rfl⟩ | hk
  · exact ⟨laws_markBase_va_loops, laws_markBase_va_q p.1.2.2.2.1 p.1.2.2.2.2.1 p.2.1, laws_markBase_va_y p.1.2.2.2.1 p.1.2.2.2.2.1 p.2.1, laws_markBase_va_l⟩
  cases hk

def G35 : Glob := G34.add 53 laws_markBase_g

theorem G35_ok : GlobOk Try.prog G35 := G34_ok.add ⟨Try.f53, Try.func53, by kernel_rfl, by kernel_rfl⟩ laws_markBase_c



def laws_markEngine_va_loops : Nat → Option LoopSpec
  | _ => none

theorem laws_markEngine_va_y (a0 : Int) (a1 : Int) (a2 : Int) : execFn G35 laws_markEngine_va_loops Try.f66 [.agg [.nilS, .nilS, .nilS, .int .i64 a0, .int .i64 a1, .nilS], .int .i64 a2] [] = laws_markEngine_va_k a0 a1 a2 (fun (y : Int) => some ⟨.ret, [.int .i64 y], []⟩) := by rw [laws_markEngine_va_e]; kernel_rfl

theorem laws_markEngine_va_l : LoopsOk G35 ⟨0, 14, laws_markEngine_va_loops⟩ (Try.f66.body.getD .skip) :=
  loopsOk_of (ids := []) (by kernel_rfl) (by kernel_rfl) trivial

theorem laws_markEngine_c : Contract Try.prog 66 laws_markEngine_g := by
  refine told G35_ok follows Try.func66 (c := Try.f66.body.getD .skip) (by kernel_rfl) ?_
  intro args s k r hk
  unfold laws_markEngine_g at hk
  rcases onPats_inv hk with ⟨p, q, rfl, rfl⟩ | hk
  · exact ⟨laws_markEngine_va_loops, laws_markEngine_va_q p.1.2.2.2.1 p.1.2.2.2.2.1 p.2.1, laws_markEngine_va_y p.1.2.2.2.1 p.1.2.2.2.2.1 p.2.1, laws_markEngine_va_l⟩
  cases hk

def G36 : Glob := G35.add 66 laws_markEngine_g

theorem G36_ok : GlobOk Try.prog G36 := G35_ok.add ⟨Try.f66, Try.func66, by kernel_rfl, by kernel_rfl⟩ laws_markEngine_c



def laws_markStringS_vo_loops : Nat → Option LoopSpec
  | 0 => some ⟨[0, 1, 5], [], fun vals st k => onPats [.own 0, .int .i64, .int .i64] [.arr .str] vals st (fun p q => loopK laws_markStringS_vo_b0 Fuel (p.2.1, p.2.2.1, q.1) (fun z => k (.exit 0) [.own 0, .int .i64 z.1, .int .i64 z.2.1] [.arr .str z.2.2]))
      (none)⟩
  | _ => none

def laws_markStringS_vo_v0 : (Int × Int × (List ByteArray)) → List AV := (fun x => [.own 0, .int .i64 x.1, .int .i64 x.2.1])
def laws_markStringS_vo_s0 : (Int × Int × (List ByteArray)) → St := (fun x => [.arr .str x.2.2])
def laws_markStringS_vo_e0 : (Int × Int × (List ByteArray)) → Out × List AV × St := (fun z => ((.exit 0), [.own 0, .int .i64 z.1, .int .i64 z.2.1], [.arr .str z.2.2]))

theorem laws_markStringS_vo_bx0 (x : (Int × Int × (List ByteArray))) : exec G36 ⟨1, 20, laws_markStringS_vo_loops⟩ (loopBody Try.f21 0) (bodyK ⟨1, 20, laws_markStringS_vo_loops⟩ [0, 1, 5] []) (setEs (deads 20) [0, 1, 5] (laws_markStringS_vo_v0 x)) (laws_markStringS_vo_s0 x) = laws_markStringS_vo_b0 x (Sum.elim (fun y => some ⟨.norm, laws_markStringS_vo_v0 y, laws_markStringS_vo_s0 y⟩) fun z => some ⟨(laws_markStringS_vo_e0 z).1, (laws_markStringS_vo_e0 z).2.1, (laws_markStringS_vo_e0 z).2.2⟩) := by
  kernel_rfl

theorem laws_markStringS_vo_lo0 : ∀ sp, (laws_markStringS_vo_loops 0) = some sp → LoopOk G36 ⟨1, 20, laws_markStringS_vo_loops⟩ sp (loopBody Try.f21 0) := by
  intro sp hsp vals st k r h
  cases hsp
  dsimp only at h
  rcases onPats_inv2 h with ⟨p, q, rfl, rfl, h⟩ | h
  · exact loop_runs2 laws_markStringS_vo_bp0 laws_markStringS_vo_v0 laws_markStringS_vo_s0 laws_markStringS_vo_e0 (fun z => by (intro h; cases h)) laws_markStringS_vo_bx0 Fuel (p.2.1, p.2.2.1, q.1) _ k r (fun z => rfl) h
  cases h

theorem laws_markStringS_vo_y (a0 : Int) (a1 : (List ByteArray)) : execFn G36 laws_markStringS_vo_loops Try.f21 [.own 0, .int .i64 a0] [.arr .str a1] = laws_markStringS_vo_k a0 a1 (fun (y : (Int × (List ByteArray))) => some ⟨.ret, [.int .i64 y.1], [.arr .str y.2]⟩) := by rw [laws_markStringS_vo_e]; kernel_rfl

theorem laws_markStringS_vo_l : LoopsOk G36 ⟨1, 20, laws_markStringS_vo_loops⟩ (Try.f21.body.getD .skip) :=
  loopsOk_of (ids := [0]) (by kernel_rfl) (by kernel_rfl) ⟨laws_markStringS_vo_lo0, trivial⟩

theorem laws_markStringS_c : Contract Try.prog 21 laws_markStringS_g := by
  refine told G36_ok follows Try.func21 (c := Try.f21.body.getD .skip) (by kernel_rfl) ?_
  intro args s k r hk
  unfold laws_markStringS_g at hk
  rcases onPats_inv hk with ⟨p, q, rfl, rfl⟩ | hk
  · exact ⟨laws_markStringS_vo_loops, laws_markStringS_vo_q p.2.1 q.1, laws_markStringS_vo_y p.2.1 q.1, laws_markStringS_vo_l⟩
  cases hk

def G37 : Glob := G36.add 21 laws_markStringS_g

theorem G37_ok : GlobOk Try.prog G37 := G36_ok.add ⟨Try.f21, Try.func21, by kernel_rfl, by kernel_rfl⟩ laws_markStringS_c



def laws_markPutS_vn_loops : Nat → Option LoopSpec
  | 0 => some ⟨[0, 1, 5], [], fun vals st k => onPats [.nilS, .int .i64, .int .i64] [] vals st (fun p q => loopK laws_markPutS_vn_b0 Fuel (p.2.1, p.2.2.1) (fun z => k (.exit 0) [.nilS, .int .i64 z.1, .int .i64 z.2] []))
      (none)⟩
  | _ => none

def laws_markPutS_vn_v0 : (Int × Int) → List AV := (fun x => [.nilS, .int .i64 x.1, .int .i64 x.2])
def laws_markPutS_vn_s0 : (Int × Int) → St := (fun x => [])
def laws_markPutS_vn_e0 : (Int × Int) → Out × List AV × St := (fun z => ((.exit 0), [.nilS, .int .i64 z.1, .int .i64 z.2], []))

theorem laws_markPutS_vn_bx0 (x : (Int × Int)) : exec G37 ⟨0, 28, laws_markPutS_vn_loops⟩ (loopBody Try.f163 0) (bodyK ⟨0, 28, laws_markPutS_vn_loops⟩ [0, 1, 5] []) (setEs (deads 28) [0, 1, 5] (laws_markPutS_vn_v0 x)) (laws_markPutS_vn_s0 x) = laws_markPutS_vn_b0 x (Sum.elim (fun y => some ⟨.norm, laws_markPutS_vn_v0 y, laws_markPutS_vn_s0 y⟩) fun z => some ⟨(laws_markPutS_vn_e0 z).1, (laws_markPutS_vn_e0 z).2.1, (laws_markPutS_vn_e0 z).2.2⟩) := by
  kernel_rfl

theorem laws_markPutS_vn_lo0 : ∀ sp, (laws_markPutS_vn_loops 0) = some sp → LoopOk G37 ⟨0, 28, laws_markPutS_vn_loops⟩ sp (loopBody Try.f163 0) := by
  intro sp hsp vals st k r h
  cases hsp
  dsimp only at h
  rcases onPats_inv2 h with ⟨p, q, rfl, rfl, h⟩ | h
  · exact loop_runs2 laws_markPutS_vn_bp0 laws_markPutS_vn_v0 laws_markPutS_vn_s0 laws_markPutS_vn_e0 (fun z => by (intro h; cases h)) laws_markPutS_vn_bx0 Fuel (p.2.1, p.2.2.1) _ k r (fun z => rfl) h
  cases h

theorem laws_markPutS_vn_y (a0 : Int) : execFn G37 laws_markPutS_vn_loops Try.f163 [.nilS, .int .i64 a0] [] = laws_markPutS_vn_k a0 (fun (y : Int) => some ⟨.ret, [.int .i64 y], []⟩) := by rw [laws_markPutS_vn_e]; kernel_rfl

theorem laws_markPutS_vn_l : LoopsOk G37 ⟨0, 28, laws_markPutS_vn_loops⟩ (Try.f163.body.getD .skip) :=
  loopsOk_of (ids := [0]) (by kernel_rfl) (by kernel_rfl) ⟨laws_markPutS_vn_lo0, trivial⟩

theorem laws_markPutS_c : Contract Try.prog 163 laws_markPutS_g := by
  refine told G37_ok follows Try.func163 (c := Try.f163.body.getD .skip) (by kernel_rfl) ?_
  intro args s k r hk
  unfold laws_markPutS_g at hk
  rcases onPats_inv hk with ⟨p, q, rfl, rfl⟩ | hk
  · exact ⟨laws_markPutS_vn_loops, laws_markPutS_vn_q p.2.1, laws_markPutS_vn_y p.2.1, laws_markPutS_vn_l⟩
  cases hk

def G38 : Glob := G37.add 163 laws_markPutS_g

theorem G38_ok : GlobOk Try.prog G38 := G37_ok.add ⟨Try.f163, Try.func163, by kernel_rfl, by kernel_rfl⟩ laws_markPutS_c



def laws_markDisk_va_loops : Nat → Option LoopSpec
  | _ => none

theorem laws_markDisk_va_y (a0 : Int) (a1 : (List ByteArray)) : execFn G38 laws_markDisk_va_loops Try.f75 [.agg [.own 0, .nilS], .int .i64 a0] [.arr .str a1] = laws_markDisk_va_k a0 a1 (fun (y : (Int × (List ByteArray))) => some ⟨.ret, [.int .i64 y.1], [.arr .str y.2]⟩) := by rw [laws_markDisk_va_e]; kernel_rfl

theorem laws_markDisk_va_l : LoopsOk G38 ⟨1, 14, laws_markDisk_va_loops⟩ (Try.f75.body.getD .skip) :=
  loopsOk_of (ids := []) (by kernel_rfl) (by kernel_rfl) trivial

theorem laws_markDisk_c : Contract Try.prog 75 laws_markDisk_g := by
  refine told G38_ok follows Try.func75 (c := Try.f75.body.getD .skip) (by kernel_rfl) ?_
  intro args s k r hk
  unfold laws_markDisk_g at hk
  rcases onPats_inv hk with ⟨p, q, rfl, rfl⟩ | hk
  · exact ⟨laws_markDisk_va_loops, laws_markDisk_va_q p.2.1 q.1, laws_markDisk_va_y p.2.1 q.1, laws_markDisk_va_l⟩
  cases hk

def G39 : Glob := G38.add 75 laws_markDisk_g

theorem G39_ok : GlobOk Try.prog G39 := G38_ok.add ⟨Try.f75, Try.func75, by kernel_rfl, by kernel_rfl⟩ laws_markDisk_c



def laws_markStore_va_loops : Nat → Option LoopSpec
  | _ => none

theorem laws_markStore_va_y (a0 : Int) (a1 : Int) (a2 : Int) (a3 : (List ByteArray)) : execFn G39 laws_markStore_va_loops Try.f20 [.agg [.nilS, .nilS, .nilS, .int .i64 a0, .int .i64 a1, .nilS, .own 0, .nilS], .int .i64 a2] [.arr .str a3] = laws_markStore_va_k a0 a1 a2 a3 (fun (y : (Int × (List ByteArray))) => some ⟨.ret, [.int .i64 y.1], [.arr .str y.2]⟩) := by rw [laws_markStore_va_e]; kernel_rfl

theorem laws_markStore_va_l : LoopsOk G39 ⟨1, 14, laws_markStore_va_loops⟩ (Try.f20.body.getD .skip) :=
  loopsOk_of (ids := []) (by kernel_rfl) (by kernel_rfl) trivial

theorem laws_markStore_c : Contract Try.prog 20 laws_markStore_g := by
  refine told G39_ok follows Try.func20 (c := Try.f20.body.getD .skip) (by kernel_rfl) ?_
  intro args s k r hk
  unfold laws_markStore_g at hk
  rcases onPats_inv hk with ⟨p, q, rfl, rfl⟩ | hk
  · exact ⟨laws_markStore_va_loops, laws_markStore_va_q p.1.2.2.2.1 p.1.2.2.2.2.1 p.2.1 q.1, laws_markStore_va_y p.1.2.2.2.1 p.1.2.2.2.2.1 p.2.1 q.1, laws_markStore_va_l⟩
  cases hk

def G40 : Glob := G39.add 20 laws_markStore_g

theorem G40_ok : GlobOk Try.prog G40 := G39_ok.add ⟨Try.f20, Try.func20, by kernel_rfl, by kernel_rfl⟩ laws_markStore_c



def laws_heldVersionS_loops : Nat → Option LoopSpec
  | 0 => some ⟨[0, 1, 4, 5], [], fun vals st k => onPats [.lst tVersion, .int .i64, .int .i64, .int .i64] [] vals st (fun p q => loopK laws_heldVersionS_b0 Fuel (p.1, p.2.1, p.2.2.1, p.2.2.2.1) (Sum.elim (fun z => k .ret [.lst tVersion z.1, .int .i64 z.2.1, .int .i64 z.2.2.1, .int .i64 z.2.2.2] []) (fun z => k (.exit 0) [.lst tVersion z.1, .int .i64 z.2.1, .int .i64 z.2.2.1, .int .i64 z.2.2.2] [])))
      (none)⟩
  | 2000004 => some ⟨[0, 2, 4, 6, 8, 10, 13, 14], [], fun _ _ _ => none⟩
  | 2000007 => some ⟨[0, 2, 4, 6, 8, 10, 13, 14], [], fun _ _ _ => none⟩
  | _ => none

def laws_heldVersionS_v0 : ((List dVersion) × Int × Int × Int) → List AV := (fun x => [.lst tVersion x.1, .int .i64 x.2.1, .int .i64 x.2.2.1, .int .i64 x.2.2.2])
def laws_heldVersionS_s0 : ((List dVersion) × Int × Int × Int) → St := (fun x => [])
def laws_heldVersionS_e0 : (((List dVersion) × Int × Int × Int) ⊕ ((List dVersion) × Int × Int × Int)) → Out × List AV × St := (Sum.elim (fun z => (.ret, [.lst tVersion z.1, .int .i64 z.2.1, .int .i64 z.2.2.1, .int .i64 z.2.2.2], [])) (fun z => ((.exit 0), [.lst tVersion z.1, .int .i64 z.2.1, .int .i64 z.2.2.1, .int .i64 z.2.2.2], [])))

theorem laws_heldVersionS_bx0 (x : ((List dVersion) × Int × Int × Int)) : exec G40 ⟨0, 53, laws_heldVersionS_loops⟩ (loopBody Try.f125 0) (bodyK ⟨0, 53, laws_heldVersionS_loops⟩ [0, 1, 4, 5] []) (setEs (deads 53) [0, 1, 4, 5] (laws_heldVersionS_v0 x)) (laws_heldVersionS_s0 x) = laws_heldVersionS_b0 x (Sum.elim (fun y => some ⟨.norm, laws_heldVersionS_v0 y, laws_heldVersionS_s0 y⟩) fun z => some ⟨(laws_heldVersionS_e0 z).1, (laws_heldVersionS_e0 z).2.1, (laws_heldVersionS_e0 z).2.2⟩) := by
  kernel_rfl

theorem laws_heldVersionS_lo0 : ∀ sp, (laws_heldVersionS_loops 0) = some sp → LoopOk G40 ⟨0, 53, laws_heldVersionS_loops⟩ sp (loopBody Try.f125 0) := by
  intro sp hsp vals st k r h
  cases hsp
  dsimp only at h
  rcases onPats_inv2 h with ⟨p, q, rfl, rfl, h⟩ | h
  · exact loop_runs2 laws_heldVersionS_bp0 laws_heldVersionS_v0 laws_heldVersionS_s0 laws_heldVersionS_e0 (fun z => by rcases z with z | z <;> (intro h; cases h)) laws_heldVersionS_bx0 Fuel (p.1, p.2.1, p.2.2.1, p.2.2.2.1) _ k r (fun z => by rcases z with z | z <;> rfl) h
  cases h

theorem laws_heldVersionS_y (a0 : (List dVersion)) (a1 : Int) : execFn G40 laws_heldVersionS_loops Try.f125 [.lst tVersion a0, .int .i64 a1] [] = laws_heldVersionS_k a0 a1 (fun (y : Int) => some ⟨.ret, [.int .i64 y], []⟩) := by rw [laws_heldVersionS_e]; kernel_rfl

theorem laws_heldVersionS_l : LoopsOk G40 ⟨0, 53, laws_heldVersionS_loops⟩ (Try.f125.body.getD .skip) :=
  loopsOk_of (ids := [0]) (by kernel_rfl) (by kernel_rfl) ⟨laws_heldVersionS_lo0, trivial⟩

theorem laws_heldVersionS_c : Contract Try.prog 125 laws_heldVersionS_g := by
  refine told G40_ok follows Try.func125 (c := Try.f125.body.getD .skip) (by kernel_rfl) ?_
  intro args s k r hk
  unfold laws_heldVersionS_g at hk
  rcases onPats_inv hk with ⟨p, q, rfl, rfl⟩ | hk
  · exact ⟨laws_heldVersionS_loops, laws_heldVersionS_q p.1 p.2.1, laws_heldVersionS_y p.1 p.2.1, laws_heldVersionS_l⟩
  cases hk

def G41 : Glob := G40.add 125 laws_heldVersionS_g

theorem G41_ok : GlobOk Try.prog G41 := G40_ok.add ⟨Try.f125, Try.func125, by kernel_rfl, by kernel_rfl⟩ laws_heldVersionS_c



def laws_heldRangeS_loops : Nat → Option LoopSpec
  | 0 => some ⟨[0, 1, 4, 5], [], fun vals st k => onPats [.lst tRange, .int .i64, .int .i64, .int .i64] [] vals st (fun p q => loopK laws_heldRangeS_b0 Fuel (p.1, p.2.1, p.2.2.1, p.2.2.2.1) (Sum.elim (fun z => k .ret [.lst tRange z.1, .int .i64 z.2.1, .int .i64 z.2.2.1, .int .i64 z.2.2.2] []) (fun z => k (.exit 0) [.lst tRange z.1, .int .i64 z.2.1, .int .i64 z.2.2.1, .int .i64 z.2.2.2] [])))
      (none)⟩
  | 2000004 => some ⟨[0, 2, 4, 6, 8, 10, 13, 14], [], fun _ _ _ => none⟩
  | 2000007 => some ⟨[0, 2, 4, 6, 8, 10, 13, 14], [], fun _ _ _ => none⟩
  | _ => none

def laws_heldRangeS_v0 : ((List dRange) × Int × Int × Int) → List AV := (fun x => [.lst tRange x.1, .int .i64 x.2.1, .int .i64 x.2.2.1, .int .i64 x.2.2.2])
def laws_heldRangeS_s0 : ((List dRange) × Int × Int × Int) → St := (fun x => [])
def laws_heldRangeS_e0 : (((List dRange) × Int × Int × Int) ⊕ ((List dRange) × Int × Int × Int)) → Out × List AV × St := (Sum.elim (fun z => (.ret, [.lst tRange z.1, .int .i64 z.2.1, .int .i64 z.2.2.1, .int .i64 z.2.2.2], [])) (fun z => ((.exit 0), [.lst tRange z.1, .int .i64 z.2.1, .int .i64 z.2.2.1, .int .i64 z.2.2.2], [])))

theorem laws_heldRangeS_bx0 (x : ((List dRange) × Int × Int × Int)) : exec G41 ⟨0, 33, laws_heldRangeS_loops⟩ (loopBody Try.f199 0) (bodyK ⟨0, 33, laws_heldRangeS_loops⟩ [0, 1, 4, 5] []) (setEs (deads 33) [0, 1, 4, 5] (laws_heldRangeS_v0 x)) (laws_heldRangeS_s0 x) = laws_heldRangeS_b0 x (Sum.elim (fun y => some ⟨.norm, laws_heldRangeS_v0 y, laws_heldRangeS_s0 y⟩) fun z => some ⟨(laws_heldRangeS_e0 z).1, (laws_heldRangeS_e0 z).2.1, (laws_heldRangeS_e0 z).2.2⟩) := by
  kernel_rfl

theorem laws_heldRangeS_lo0 : ∀ sp, (laws_heldRangeS_loops 0) = some sp → LoopOk G41 ⟨0, 33, laws_heldRangeS_loops⟩ sp (loopBody Try.f199 0) := by
  intro sp hsp vals st k r h
  cases hsp
  dsimp only at h
  rcases onPats_inv2 h with ⟨p, q, rfl, rfl, h⟩ | h
  · exact loop_runs2 laws_heldRangeS_bp0 laws_heldRangeS_v0 laws_heldRangeS_s0 laws_heldRangeS_e0 (fun z => by rcases z with z | z <;> (intro h; cases h)) laws_heldRangeS_bx0 Fuel (p.1, p.2.1, p.2.2.1, p.2.2.2.1) _ k r (fun z => by rcases z with z | z <;> rfl) h
  cases h

theorem laws_heldRangeS_y (a0 : (List dRange)) (a1 : Int) : execFn G41 laws_heldRangeS_loops Try.f199 [.lst tRange a0, .int .i64 a1] [] = laws_heldRangeS_k a0 a1 (fun (y : Int) => some ⟨.ret, [.int .i64 y], []⟩) := by rw [laws_heldRangeS_e]; kernel_rfl

theorem laws_heldRangeS_l : LoopsOk G41 ⟨0, 33, laws_heldRangeS_loops⟩ (Try.f199.body.getD .skip) :=
  loopsOk_of (ids := [0]) (by kernel_rfl) (by kernel_rfl) ⟨laws_heldRangeS_lo0, trivial⟩

theorem laws_heldRangeS_c : Contract Try.prog 199 laws_heldRangeS_g := by
  refine told G41_ok follows Try.func199 (c := Try.f199.body.getD .skip) (by kernel_rfl) ?_
  intro args s k r hk
  unfold laws_heldRangeS_g at hk
  rcases onPats_inv hk with ⟨p, q, rfl, rfl⟩ | hk
  · exact ⟨laws_heldRangeS_loops, laws_heldRangeS_q p.1 p.2.1, laws_heldRangeS_y p.1 p.2.1, laws_heldRangeS_l⟩
  cases hk

def G42 : Glob := G41.add 199 laws_heldRangeS_g

theorem G42_ok : GlobOk Try.prog G42 := G41_ok.add ⟨Try.f199, Try.func199, by kernel_rfl, by kernel_rfl⟩ laws_heldRangeS_c



def laws_heldWriteS_loops : Nat → Option LoopSpec
  | 0 => some ⟨[0, 1, 4, 5], [], fun vals st k => onPats [.lst tWrite, .int .i64, .int .i64, .int .i64] [] vals st (fun p q => loopK laws_heldWriteS_b0 Fuel (p.1, p.2.1, p.2.2.1, p.2.2.2.1) (Sum.elim (fun z => k .ret [.lst tWrite z.1, .int .i64 z.2.1, .int .i64 z.2.2.1, .int .i64 z.2.2.2] []) (fun z => k (.exit 0) [.lst tWrite z.1, .int .i64 z.2.1, .int .i64 z.2.2.1, .int .i64 z.2.2.2] [])))
      (none)⟩
  | 2000004 => some ⟨[0, 2, 4, 6, 8, 10, 13, 14], [], fun _ _ _ => none⟩
  | 2000007 => some ⟨[0, 2, 4, 6, 8, 10, 13, 14], [], fun _ _ _ => none⟩
  | _ => none

def laws_heldWriteS_v0 : ((List dWrite) × Int × Int × Int) → List AV := (fun x => [.lst tWrite x.1, .int .i64 x.2.1, .int .i64 x.2.2.1, .int .i64 x.2.2.2])
def laws_heldWriteS_s0 : ((List dWrite) × Int × Int × Int) → St := (fun x => [])
def laws_heldWriteS_e0 : (((List dWrite) × Int × Int × Int) ⊕ ((List dWrite) × Int × Int × Int)) → Out × List AV × St := (Sum.elim (fun z => (.ret, [.lst tWrite z.1, .int .i64 z.2.1, .int .i64 z.2.2.1, .int .i64 z.2.2.2], [])) (fun z => ((.exit 0), [.lst tWrite z.1, .int .i64 z.2.1, .int .i64 z.2.2.1, .int .i64 z.2.2.2], [])))

theorem laws_heldWriteS_bx0 (x : ((List dWrite) × Int × Int × Int)) : exec G42 ⟨0, 44, laws_heldWriteS_loops⟩ (loopBody Try.f200 0) (bodyK ⟨0, 44, laws_heldWriteS_loops⟩ [0, 1, 4, 5] []) (setEs (deads 44) [0, 1, 4, 5] (laws_heldWriteS_v0 x)) (laws_heldWriteS_s0 x) = laws_heldWriteS_b0 x (Sum.elim (fun y => some ⟨.norm, laws_heldWriteS_v0 y, laws_heldWriteS_s0 y⟩) fun z => some ⟨(laws_heldWriteS_e0 z).1, (laws_heldWriteS_e0 z).2.1, (laws_heldWriteS_e0 z).2.2⟩) := by
  kernel_rfl

theorem laws_heldWriteS_lo0 : ∀ sp, (laws_heldWriteS_loops 0) = some sp → LoopOk G42 ⟨0, 44, laws_heldWriteS_loops⟩ sp (loopBody Try.f200 0) := by
  intro sp hsp vals st k r h
  cases hsp
  dsimp only at h
  rcases onPats_inv2 h with ⟨p, q, rfl, rfl, h⟩ | h
  · exact loop_runs2 laws_heldWriteS_bp0 laws_heldWriteS_v0 laws_heldWriteS_s0 laws_heldWriteS_e0 (fun z => by rcases z with z | z <;> (intro h; cases h)) laws_heldWriteS_bx0 Fuel (p.1, p.2.1, p.2.2.1, p.2.2.2.1) _ k r (fun z => by rcases z with z | z <;> rfl) h
  cases h

theorem laws_heldWriteS_y (a0 : (List dWrite)) (a1 : Int) : execFn G42 laws_heldWriteS_loops Try.f200 [.lst tWrite a0, .int .i64 a1] [] = laws_heldWriteS_k a0 a1 (fun (y : Int) => some ⟨.ret, [.int .i64 y], []⟩) := by rw [laws_heldWriteS_e]; kernel_rfl

theorem laws_heldWriteS_l : LoopsOk G42 ⟨0, 44, laws_heldWriteS_loops⟩ (Try.f200.body.getD .skip) :=
  loopsOk_of (ids := [0]) (by kernel_rfl) (by kernel_rfl) ⟨laws_heldWriteS_lo0, trivial⟩

theorem laws_heldWriteS_c : Contract Try.prog 200 laws_heldWriteS_g := by
  refine told G42_ok follows Try.func200 (c := Try.f200.body.getD .skip) (by kernel_rfl) ?_
  intro args s k r hk
  unfold laws_heldWriteS_g at hk
  rcases onPats_inv hk with ⟨p, q, rfl, rfl⟩ | hk
  · exact ⟨laws_heldWriteS_loops, laws_heldWriteS_q p.1 p.2.1, laws_heldWriteS_y p.1 p.2.1, laws_heldWriteS_l⟩
  cases hk

def G43 : Glob := G42.add 200 laws_heldWriteS_g

theorem G43_ok : GlobOk Try.prog G43 := G42_ok.add ⟨Try.f200, Try.func200, by kernel_rfl, by kernel_rfl⟩ laws_heldWriteS_c



def laws_heldTxnS_loops : Nat → Option LoopSpec
  | 0 => some ⟨[0, 1, 4, 5], [], fun vals st k => onPats [.lst tTxn, .int .i64, .int .i64, .int .i64] [] vals st (fun p q => loopK laws_heldTxnS_b0 Fuel (p.1, p.2.1, p.2.2.1, p.2.2.2.1) (Sum.elim (fun z => k .ret [.lst tTxn z.1, .int .i64 z.2.1, .int .i64 z.2.2.1, .int .i64 z.2.2.2] []) (fun z => k (.exit 0) [.lst tTxn z.1, .int .i64 z.2.1, .int .i64 z.2.2.1, .int .i64 z.2.2.2] [])))
      (none)⟩
  | 2000025 => some ⟨[0, 2, 4, 6, 8, 10, 13, 14], [], fun _ _ _ => none⟩
  | _ => none

def laws_heldTxnS_v0 : ((List dTxn) × Int × Int × Int) → List AV := (fun x => [.lst tTxn x.1, .int .i64 x.2.1, .int .i64 x.2.2.1, .int .i64 x.2.2.2])
def laws_heldTxnS_s0 : ((List dTxn) × Int × Int × Int) → St := (fun x => [])
def laws_heldTxnS_e0 : (((List dTxn) × Int × Int × Int) ⊕ ((List dTxn) × Int × Int × Int)) → Out × List AV × St := (Sum.elim (fun z => (.ret, [.lst tTxn z.1, .int .i64 z.2.1, .int .i64 z.2.2.1, .int .i64 z.2.2.2], [])) (fun z => ((.exit 0), [.lst tTxn z.1, .int .i64 z.2.1, .int .i64 z.2.2.1, .int .i64 z.2.2.2], [])))

theorem laws_heldTxnS_bx0 (x : ((List dTxn) × Int × Int × Int)) : exec G43 ⟨0, 88, laws_heldTxnS_loops⟩ (loopBody Try.f126 0) (bodyK ⟨0, 88, laws_heldTxnS_loops⟩ [0, 1, 4, 5] []) (setEs (deads 88) [0, 1, 4, 5] (laws_heldTxnS_v0 x)) (laws_heldTxnS_s0 x) = laws_heldTxnS_b0 x (Sum.elim (fun y => some ⟨.norm, laws_heldTxnS_v0 y, laws_heldTxnS_s0 y⟩) fun z => some ⟨(laws_heldTxnS_e0 z).1, (laws_heldTxnS_e0 z).2.1, (laws_heldTxnS_e0 z).2.2⟩) := by
  kernel_rfl

theorem laws_heldTxnS_lo0 : ∀ sp, (laws_heldTxnS_loops 0) = some sp → LoopOk G43 ⟨0, 88, laws_heldTxnS_loops⟩ sp (loopBody Try.f126 0) := by
  intro sp hsp vals st k r h
  cases hsp
  dsimp only at h
  rcases onPats_inv2 h with ⟨p, q, rfl, rfl, h⟩ | h
  · exact loop_runs2 laws_heldTxnS_bp0 laws_heldTxnS_v0 laws_heldTxnS_s0 laws_heldTxnS_e0 (fun z => by rcases z with z | z <;> (intro h; cases h)) laws_heldTxnS_bx0 Fuel (p.1, p.2.1, p.2.2.1, p.2.2.2.1) _ k r (fun z => by rcases z with z | z <;> rfl) h
  cases h

theorem laws_heldTxnS_y (a0 : (List dTxn)) (a1 : Int) : execFn G43 laws_heldTxnS_loops Try.f126 [.lst tTxn a0, .int .i64 a1] [] = laws_heldTxnS_k a0 a1 (fun (y : Int) => some ⟨.ret, [.int .i64 y], []⟩) := by rw [laws_heldTxnS_e]; kernel_rfl

theorem laws_heldTxnS_l : LoopsOk G43 ⟨0, 88, laws_heldTxnS_loops⟩ (Try.f126.body.getD .skip) :=
  loopsOk_of (ids := [0]) (by kernel_rfl) (by kernel_rfl) ⟨laws_heldTxnS_lo0, trivial⟩

theorem laws_heldTxnS_c : Contract Try.prog 126 laws_heldTxnS_g := by
  refine told G43_ok follows Try.func126 (c := Try.f126.body.getD .skip) (by kernel_rfl) ?_
  intro args s k r hk
  unfold laws_heldTxnS_g at hk
  rcases onPats_inv hk with ⟨p, q, rfl, rfl⟩ | hk
  · exact ⟨laws_heldTxnS_loops, laws_heldTxnS_q p.1 p.2.1, laws_heldTxnS_y p.1 p.2.1, laws_heldTxnS_l⟩
  cases hk

def G44 : Glob := G43.add 126 laws_heldTxnS_g

theorem G44_ok : GlobOk Try.prog G44 := G43_ok.add ⟨Try.f126, Try.func126, by kernel_rfl, by kernel_rfl⟩ laws_heldTxnS_c



def laws_heldBase_loops : Nat → Option LoopSpec
  | _ => none

theorem laws_heldBase_y (a0 : (List dVersion)) (a1 : (List dTxn)) (a2 : (List dTxn)) (a3 : Int) (a4 : Int) (a5 : Int) : execFn G44 laws_heldBase_loops Try.f55 [.agg [.lst tVersion a0, .lst tTxn a1, .lst tTxn a2, .int .i64 a3, .int .i64 a4], .int .i64 a5] [] = laws_heldBase_k (a0, (a1, (a2, (a3, a4)))) a5 (fun (y : Int) => some ⟨.ret, [.int .i64 y], []⟩) := by rw [laws_heldBase_e]; kernel_rfl

theorem laws_heldBase_l : LoopsOk G44 ⟨0, 24, laws_heldBase_loops⟩ (Try.f55.body.getD .skip) :=
  loopsOk_of (ids := []) (by kernel_rfl) (by kernel_rfl) trivial

theorem laws_heldBase_c : Contract Try.prog 55 laws_heldBase_g := by
  refine told G44_ok follows Try.func55 (c := Try.f55.body.getD .skip) (by kernel_rfl) ?_
  intro args s k r hk
  unfold laws_heldBase_g at hk
  rcases onPats_inv hk with ⟨p, q, rfl, rfl⟩ | hk
  · exact ⟨laws_heldBase_loops, laws_heldBase_q p.1.1 p.1.2.1 p.1.2.2.1 p.1.2.2.2.1 p.1.2.2.2.2.1 p.2.1, laws_heldBase_y p.1.1 p.1.2.1 p.1.2.2.1 p.1.2.2.2.1 p.1.2.2.2.2.1 p.2.1, laws_heldBase_l⟩
  cases hk

def G45 : Glob := G44.add 55 laws_heldBase_g

theorem G45_ok : GlobOk Try.prog G45 := G44_ok.add ⟨Try.f55, Try.func55, by kernel_rfl, by kernel_rfl⟩ laws_heldBase_c



def laws_heldEngine_loops : Nat → Option LoopSpec
  | _ => none

theorem laws_heldEngine_y (a0 : (List dVersion)) (a1 : (List dTxn)) (a2 : (List dTxn)) (a3 : Int) (a4 : Int) (a5 : (List dTxn)) (a6 : Int) : execFn G45 laws_heldEngine_loops Try.f67 [.agg [.lst tVersion a0, .lst tTxn a1, .lst tTxn a2, .int .i64 a3, .int .i64 a4, .lst tTxn a5], .int .i64 a6] [] = laws_heldEngine_k ((a0, (a1, (a2, (a3, a4)))), a5) a6 (fun (y : Int) => some ⟨.ret, [.int .i64 y], []⟩) := by rw [laws_heldEngine_e]; kernel_rfl

theorem laws_heldEngine_l : LoopsOk G45 ⟨0, 18, laws_heldEngine_loops⟩ (Try.f67.body.getD .skip) :=
  loopsOk_of (ids := []) (by kernel_rfl) (by kernel_rfl) trivial

theorem laws_heldEngine_c : Contract Try.prog 67 laws_heldEngine_g := by
  refine told G45_ok follows Try.func67 (c := Try.f67.body.getD .skip) (by kernel_rfl) ?_
  intro args s k r hk
  unfold laws_heldEngine_g at hk
  rcases onPats_inv hk with ⟨p, q, rfl, rfl⟩ | hk
  · exact ⟨laws_heldEngine_loops, laws_heldEngine_q p.1.1 p.1.2.1 p.1.2.2.1 p.1.2.2.2.1 p.1.2.2.2.2.1 p.1.2.2.2.2.2.1 p.2.1, laws_heldEngine_y p.1.1 p.1.2.1 p.1.2.2.1 p.1.2.2.2.1 p.1.2.2.2.2.1 p.1.2.2.2.2.2.1 p.2.1, laws_heldEngine_l⟩
  cases hk

def G46 : Glob := G45.add 67 laws_heldEngine_g

theorem G46_ok : GlobOk Try.prog G46 := G45_ok.add ⟨Try.f67, Try.func67, by kernel_rfl, by kernel_rfl⟩ laws_heldEngine_c



def laws_heldStringS_loops : Nat → Option LoopSpec
  | 0 => some ⟨[0, 1, 4, 5], [], fun vals st k => onPats [.lst .str, .int .i64, .int .i64, .int .i64] [] vals st (fun p q => loopK laws_heldStringS_b0 Fuel (p.1, p.2.1, p.2.2.1, p.2.2.2.1) (Sum.elim (fun z => k .ret [.lst .str z.1, .int .i64 z.2.1, .int .i64 z.2.2.1, .int .i64 z.2.2.2] []) (fun z => k (.exit 0) [.lst .str z.1, .int .i64 z.2.1, .int .i64 z.2.2.1, .int .i64 z.2.2.2] [])))
      (none)⟩
  | _ => none

def laws_heldStringS_v0 : ((List ByteArray) × Int × Int × Int) → List AV := (fun x => [.lst .str x.1, .int .i64 x.2.1, .int .i64 x.2.2.1, .int .i64 x.2.2.2])
def laws_heldStringS_s0 : ((List ByteArray) × Int × Int × Int) → St := (fun x => [])
def laws_heldStringS_e0 : (((List ByteArray) × Int × Int × Int) ⊕ ((List ByteArray) × Int × Int × Int)) → Out × List AV × St := (Sum.elim (fun z => (.ret, [.lst .str z.1, .int .i64 z.2.1, .int .i64 z.2.2.1, .int .i64 z.2.2.2], [])) (fun z => ((.exit 0), [.lst .str z.1, .int .i64 z.2.1, .int .i64 z.2.2.1, .int .i64 z.2.2.2], [])))

theorem laws_heldStringS_bx0 (x : ((List ByteArray) × Int × Int × Int)) : exec G46 ⟨0, 22, laws_heldStringS_loops⟩ (loopBody Try.f22 0) (bodyK ⟨0, 22, laws_heldStringS_loops⟩ [0, 1, 4, 5] []) (setEs (deads 22) [0, 1, 4, 5] (laws_heldStringS_v0 x)) (laws_heldStringS_s0 x) = laws_heldStringS_b0 x (Sum.elim (fun y => some ⟨.norm, laws_heldStringS_v0 y, laws_heldStringS_s0 y⟩) fun z => some ⟨(laws_heldStringS_e0 z).1, (laws_heldStringS_e0 z).2.1, (laws_heldStringS_e0 z).2.2⟩) := by
  kernel_rfl

theorem laws_heldStringS_lo0 : ∀ sp, (laws_heldStringS_loops 0) = some sp → LoopOk G46 ⟨0, 22, laws_heldStringS_loops⟩ sp (loopBody Try.f22 0) := by
  intro sp hsp vals st k r h
  cases hsp
  dsimp only at h
  rcases onPats_inv2 h with ⟨p, q, rfl, rfl, h⟩ | h
  · exact loop_runs2 laws_heldStringS_bp0 laws_heldStringS_v0 laws_heldStringS_s0 laws_heldStringS_e0 (fun z => by rcases z with z | z <;> (intro h; cases h)) laws_heldStringS_bx0 Fuel (p.1, p.2.1, p.2.2.1, p.2.2.2.1) _ k r (fun z => by rcases z with z | z <;> rfl) h
  cases h

theorem laws_heldStringS_y (a0 : (List ByteArray)) (a1 : Int) : execFn G46 laws_heldStringS_loops Try.f22 [.lst .str a0, .int .i64 a1] [] = laws_heldStringS_k a0 a1 (fun (y : Int) => some ⟨.ret, [.int .i64 y], []⟩) := by rw [laws_heldStringS_e]; kernel_rfl

theorem laws_heldStringS_l : LoopsOk G46 ⟨0, 22, laws_heldStringS_loops⟩ (Try.f22.body.getD .skip) :=
  loopsOk_of (ids := [0]) (by kernel_rfl) (by kernel_rfl) ⟨laws_heldStringS_lo0, trivial⟩

theorem laws_heldStringS_c : Contract Try.prog 22 laws_heldStringS_g := by
  refine told G46_ok follows Try.func22 (c := Try.f22.body.getD .skip) (by kernel_rfl) ?_
  intro args s k r hk
  unfold laws_heldStringS_g at hk
  rcases onPats_inv hk with ⟨p, q, rfl, rfl⟩ | hk
  · exact ⟨laws_heldStringS_loops, laws_heldStringS_q p.1 p.2.1, laws_heldStringS_y p.1 p.2.1, laws_heldStringS_l⟩
  cases hk

def G47 : Glob := G46.add 22 laws_heldStringS_g

theorem G47_ok : GlobOk Try.prog G47 := G46_ok.add ⟨Try.f22, Try.func22, by kernel_rfl, by kernel_rfl⟩ laws_heldStringS_c



def laws_heldPutS_loops : Nat → Option LoopSpec
  | 0 => some ⟨[0, 1, 4, 5], [], fun vals st k => onPats [.lst tPut, .int .i64, .int .i64, .int .i64] [] vals st (fun p q => loopK laws_heldPutS_b0 Fuel (p.1, p.2.1, p.2.2.1, p.2.2.2.1) (Sum.elim (fun z => k .ret [.lst tPut z.1, .int .i64 z.2.1, .int .i64 z.2.2.1, .int .i64 z.2.2.2] []) (fun z => k (.exit 0) [.lst tPut z.1, .int .i64 z.2.1, .int .i64 z.2.2.1, .int .i64 z.2.2.2] [])))
      (none)⟩
  | 2000007 => some ⟨[0, 2, 4, 6, 8, 10, 13, 14], [], fun _ _ _ => none⟩
  | _ => none

def laws_heldPutS_v0 : ((List dPut) × Int × Int × Int) → List AV := (fun x => [.lst tPut x.1, .int .i64 x.2.1, .int .i64 x.2.2.1, .int .i64 x.2.2.2])
def laws_heldPutS_s0 : ((List dPut) × Int × Int × Int) → St := (fun x => [])
def laws_heldPutS_e0 : (((List dPut) × Int × Int × Int) ⊕ ((List dPut) × Int × Int × Int)) → Out × List AV × St := (Sum.elim (fun z => (.ret, [.lst tPut z.1, .int .i64 z.2.1, .int .i64 z.2.2.1, .int .i64 z.2.2.2], [])) (fun z => ((.exit 0), [.lst tPut z.1, .int .i64 z.2.1, .int .i64 z.2.2.1, .int .i64 z.2.2.2], [])))

theorem laws_heldPutS_bx0 (x : ((List dPut) × Int × Int × Int)) : exec G47 ⟨0, 32, laws_heldPutS_loops⟩ (loopBody Try.f191 0) (bodyK ⟨0, 32, laws_heldPutS_loops⟩ [0, 1, 4, 5] []) (setEs (deads 32) [0, 1, 4, 5] (laws_heldPutS_v0 x)) (laws_heldPutS_s0 x) = laws_heldPutS_b0 x (Sum.elim (fun y => some ⟨.norm, laws_heldPutS_v0 y, laws_heldPutS_s0 y⟩) fun z => some ⟨(laws_heldPutS_e0 z).1, (laws_heldPutS_e0 z).2.1, (laws_heldPutS_e0 z).2.2⟩) := by
  kernel_rfl

theorem laws_heldPutS_lo0 : ∀ sp, (laws_heldPutS_loops 0) = some sp → LoopOk G47 ⟨0, 32, laws_heldPutS_loops⟩ sp (loopBody Try.f191 0) := by
  intro sp hsp vals st k r h
  cases hsp
  dsimp only at h
  rcases onPats_inv2 h with ⟨p, q, rfl, rfl, h⟩ | h
  · exact loop_runs2 laws_heldPutS_bp0 laws_heldPutS_v0 laws_heldPutS_s0 laws_heldPutS_e0 (fun z => by rcases z with z | z <;> (intro h; cases h)) laws_heldPutS_bx0 Fuel (p.1, p.2.1, p.2.2.1, p.2.2.2.1) _ k r (fun z => by rcases z with z | z <;> rfl) h
  cases h

theorem laws_heldPutS_y (a0 : (List dPut)) (a1 : Int) : execFn G47 laws_heldPutS_loops Try.f191 [.lst tPut a0, .int .i64 a1] [] = laws_heldPutS_k a0 a1 (fun (y : Int) => some ⟨.ret, [.int .i64 y], []⟩) := by rw [laws_heldPutS_e]; kernel_rfl

theorem laws_heldPutS_l : LoopsOk G47 ⟨0, 32, laws_heldPutS_loops⟩ (Try.f191.body.getD .skip) :=
  loopsOk_of (ids := [0]) (by kernel_rfl) (by kernel_rfl) ⟨laws_heldPutS_lo0, trivial⟩

theorem laws_heldPutS_c : Contract Try.prog 191 laws_heldPutS_g := by
  refine told G47_ok follows Try.func191 (c := Try.f191.body.getD .skip) (by kernel_rfl) ?_
  intro args s k r hk
  unfold laws_heldPutS_g at hk
  rcases onPats_inv hk with ⟨p, q, rfl, rfl⟩ | hk
  · exact ⟨laws_heldPutS_loops, laws_heldPutS_q p.1 p.2.1, laws_heldPutS_y p.1 p.2.1, laws_heldPutS_l⟩
  cases hk

def G48 : Glob := G47.add 191 laws_heldPutS_g

theorem G48_ok : GlobOk Try.prog G48 := G47_ok.add ⟨Try.f191, Try.func191, by kernel_rfl, by kernel_rfl⟩ laws_heldPutS_c



def laws_heldDisk_loops : Nat → Option LoopSpec
  | _ => none

theorem laws_heldDisk_y (a0 : (List ByteArray)) (a1 : (List dPut)) (a2 : Int) : execFn G48 laws_heldDisk_loops Try.f109 [.agg [.lst .str a0, .lst tPut a1], .int .i64 a2] [] = laws_heldDisk_k (a0, a1) a2 (fun (y : Int) => some ⟨.ret, [.int .i64 y], []⟩) := by rw [laws_heldDisk_e]; kernel_rfl

theorem laws_heldDisk_l : LoopsOk G48 ⟨0, 18, laws_heldDisk_loops⟩ (Try.f109.body.getD .skip) :=
  loopsOk_of (ids := []) (by kernel_rfl) (by kernel_rfl) trivial

theorem laws_heldDisk_c : Contract Try.prog 109 laws_heldDisk_g := by
  refine told G48_ok follows Try.func109 (c := Try.f109.body.getD .skip) (by kernel_rfl) ?_
  intro args s k r hk
  unfold laws_heldDisk_g at hk
  rcases onPats_inv hk with ⟨p, q, rfl, rfl⟩ | hk
  · exact ⟨laws_heldDisk_loops, laws_heldDisk_q p.1.1 p.1.2.1 p.2.1, laws_heldDisk_y p.1.1 p.1.2.1 p.2.1, laws_heldDisk_l⟩
  cases hk

def G49 : Glob := G48.add 109 laws_heldDisk_g

theorem G49_ok : GlobOk Try.prog G49 := G48_ok.add ⟨Try.f109, Try.func109, by kernel_rfl, by kernel_rfl⟩ laws_heldDisk_c



def laws_heldStore_loops : Nat → Option LoopSpec
  | _ => none

theorem laws_heldStore_y (a0 : (List dVersion)) (a1 : (List dTxn)) (a2 : (List dTxn)) (a3 : Int) (a4 : Int) (a5 : (List dTxn)) (a6 : (List ByteArray)) (a7 : (List dPut)) (a8 : Int) : execFn G49 laws_heldStore_loops Try.f44 [.agg [.lst tVersion a0, .lst tTxn a1, .lst tTxn a2, .int .i64 a3, .int .i64 a4, .lst tTxn a5, .lst .str a6, .lst tPut a7], .int .i64 a8] [] = laws_heldStore_k (((a0, (a1, (a2, (a3, a4)))), a5), (a6, a7)) a8 (fun (y : Int) => some ⟨.ret, [.int .i64 y], []⟩) := by rw [laws_heldStore_e]; kernel_rfl

theorem laws_heldStore_l : LoopsOk G49 ⟨0, 18, laws_heldStore_loops⟩ (Try.f44.body.getD .skip) :=
  loopsOk_of (ids := []) (by kernel_rfl) (by kernel_rfl) trivial

theorem laws_heldStore_c : Contract Try.prog 44 laws_heldStore_g := by
  refine told G49_ok follows Try.func44 (c := Try.f44.body.getD .skip) (by kernel_rfl) ?_
  intro args s k r hk
  unfold laws_heldStore_g at hk
  rcases onPats_inv hk with ⟨p, q, rfl, rfl⟩ | hk
  · exact ⟨laws_heldStore_loops, laws_heldStore_q p.1.1 p.1.2.1 p.1.2.2.1 p.1.2.2.2.1 p.1.2.2.2.2.1 p.1.2.2.2.2.2.1 p.1.2.2.2.2.2.2.1 p.1.2.2.2.2.2.2.2.1 p.2.1, laws_heldStore_y p.1.1 p.1.2.1 p.1.2.2.1 p.1.2.2.2.1 p.1.2.2.2.2.1 p.1.2.2.2.2.2.1 p.1.2.2.2.2.2.2.1 p.1.2.2.2.2.2.2.2.1 p.2.1, laws_heldStore_l⟩
  cases hk

def G50 : Glob := G49.add 44 laws_heldStore_g

theorem G50_ok : GlobOk Try.prog G50 := G49_ok.add ⟨Try.f44, Try.func44, by kernel_rfl, by kernel_rfl⟩ laws_heldStore_c



def laws_FnExactStoreNew_loops : Nat → Option LoopSpec
  | _ => none

theorem laws_FnExactStoreNew_y  : execFn G50 laws_FnExactStoreNew_loops Try.f7 [] [] = laws_FnExactStoreNew_k  (fun (y : Bool) => some ⟨.ret, [.bool y], []⟩) := by rw [laws_FnExactStoreNew_e]; kernel_rfl

theorem laws_FnExactStoreNew_l : LoopsOk G50 ⟨0, 36, laws_FnExactStoreNew_loops⟩ (Try.f7.body.getD .skip) :=
  loopsOk_of (ids := []) (by kernel_rfl) (by kernel_rfl) trivial

theorem laws_FnExactStoreNew_c : Contract Try.prog 7 laws_FnExactStoreNew_g := by
  refine told G50_ok follows Try.func7 (c := Try.f7.body.getD .skip) (by kernel_rfl) ?_
  intro args s k r hk
  unfold laws_FnExactStoreNew_g at hk
  rcases onPats_inv hk with ⟨p, q, rfl, rfl⟩ | hk
  · exact ⟨laws_FnExactStoreNew_loops, laws_FnExactStoreNew_q , laws_FnExactStoreNew_y , laws_FnExactStoreNew_l⟩
  cases hk

def G51 : Glob := G50.add 7 laws_FnExactStoreNew_g

theorem G51_ok : GlobOk Try.prog G51 := G50_ok.add ⟨Try.f7, Try.func7, by kernel_rfl, by kernel_rfl⟩ laws_FnExactStoreNew_c

end

end Go.VE
