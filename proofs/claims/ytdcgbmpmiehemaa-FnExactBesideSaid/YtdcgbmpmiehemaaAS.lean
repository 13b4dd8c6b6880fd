/- The seat: its types, and each function told by its native program; written by gen.py. -/

import Derived.Test.YtdcgbmpmiehemaaAN

import Derived.Test.YtdcgbmpmiehemaaProg

import Derived.KernelRfl

namespace Go.VE

open Go.Proofs

noncomputable section

set_option linter.unusedVariables false
set_option maxRecDepth 100000


def tab : List TInfo := [
  ⟨2, false, (.int .i64), []⟩,
  ⟨3, false, (.int .i64), []⟩,
  ⟨4, false, .bool, []⟩,
  ⟨5, false, (.int .u8), []⟩,
  ⟨6, false, (.int .u8), []⟩,
  ⟨7, true, (.pair (.int .i64) (.pair (.int .i64) (.pair .bool (.int .u8)))), [(0, false, (.int .i64)), (1, false, (.int .i64)), (2, false, .bool), (3, false, (.int .u8))]⟩,
  ⟨8, true, (.pair (.int .i64) (.pair (.int .i64) (.pair .bool (.int .u8)))), [(0, false, (.int .i64)), (1, false, (.int .i64)), (2, false, .bool), (3, false, (.int .u8))]⟩,
  ⟨9, false, .str, []⟩,
  ⟨10, false, .str, []⟩,
  ⟨11, false, .str, []⟩,
  ⟨12, false, (.int .u64), []⟩,
  ⟨13, true, (.pair .str (.int .u64)), [(0, false, .str), (1, false, (.int .u64))]⟩,
  ⟨14, true, (.pair .str (.int .u64)), [(0, false, .str), (1, false, (.int .u64))]⟩,
  ⟨21, false, (.int .i32), []⟩,
  ⟨22, false, (.slice (.pair .str .str)), []⟩,
  ⟨23, false, (.slice (.pair .str (.pair .str .bool))), []⟩,
  ⟨24, true, (.pair (.int .i64) (.pair (.int .i64) (.pair (.int .i64) (.pair (.int .i64) (.pair (.slice (.pair .str .str)) (.pair (.slice (.pair .str (.pair .str .bool))) (.pair .bool .str))))))), [(0, false, (.int .i64)), (1, false, (.int .i64)), (2, false, (.int .i64)), (3, false, (.int .i64)), (4, false, (.slice (.pair .str .str))), (5, false, (.slice (.pair .str (.pair .str .bool)))), (6, false, .bool), (7, false, .str)]⟩,
  ⟨25, true, (.pair (.int .i64) (.pair (.int .i64) (.pair (.int .i64) (.pair (.int .i64) (.pair (.slice (.pair .str .str)) (.pair (.slice (.pair .str (.pair .str .bool))) (.pair .bool .str))))))), [(0, false, (.int .i64)), (1, false, (.int .i64)), (2, false, (.int .i64)), (3, false, (.int .i64)), (4, false, (.slice (.pair .str .str))), (5, false, (.slice (.pair .str (.pair .str .bool)))), (6, false, .bool), (7, false, .str)]⟩,
  ⟨28, false, (.slice (.pair .str .str)), []⟩,
  ⟨29, false, (.slice (.pair .str (.pair .str .bool))), []⟩,
  ⟨30, true, (.pair (.int .i64) (.pair (.int .i64) (.pair (.int .i64) (.pair (.int .i64) (.pair (.slice (.pair .str .str)) (.pair (.slice (.pair .str (.pair .str .bool))) (.pair .bool .str))))))), [(0, false, (.int .i64)), (1, false, (.int .i64)), (2, false, (.int .i64)), (3, false, (.int .i64)), (4, false, (.slice (.pair .str .str))), (5, false, (.slice (.pair .str (.pair .str .bool)))), (6, false, .bool), (7, false, .str)]⟩,
  ⟨31, true, (.pair (.int .i64) (.pair (.int .i64) (.pair (.int .i64) (.pair (.int .i64) (.pair (.slice (.pair .str .str)) (.pair (.slice (.pair .str (.pair .str .bool))) (.pair .bool .str))))))), [(0, false, (.int .i64)), (1, false, (.int .i64)), (2, false, (.int .i64)), (3, false, (.int .i64)), (4, false, (.slice (.pair .str .str))), (5, false, (.slice (.pair .str (.pair .str .bool)))), (6, false, .bool), (7, false, .str)]⟩,
  ⟨34, false, (.slice (.int .u8)), []⟩,
  ⟨41, false, (.slice (.pair (.int .i64) (.pair (.int .i64) (.pair (.int .i64) (.pair (.int .i64) (.pair (.slice (.pair .str .str)) (.pair (.slice (.pair .str (.pair .str .bool))) (.pair .bool .str)))))))), []⟩,
  ⟨44, false, (.slice (.pair (.int .i64) (.pair (.int .i64) (.pair (.int .i64) (.pair (.int .i64) (.pair (.slice (.pair .str .str)) (.pair (.slice (.pair .str (.pair .str .bool))) (.pair .bool .str)))))))), []⟩,
  ⟨48, false, (.slice (.pair .str (.pair .str (.pair .bool (.int .i64))))), []⟩,
  ⟨50, false, (.slice (.int .i64)), []⟩,
  ⟨54, false, (.slice (.pair .str .str)), []⟩,
  ⟨56, true, (.pair .str .str), [(0, false, .str), (1, false, .str)]⟩,
  ⟨57, true, (.pair .str .str), [(0, false, .str), (1, false, .str)]⟩,
  ⟨68, true, (.pair (.slice (.pair .str (.pair .str (.pair .bool (.int .i64))))) (.pair (.slice (.pair (.int .i64) (.pair (.int .i64) (.pair (.int .i64) (.pair (.int .i64) (.pair (.slice (.pair .str .str)) (.pair (.slice (.pair .str (.pair .str .bool))) (.pair .bool .str)))))))) (.pair (.slice (.pair (.int .i64) (.pair (.int .i64) (.pair (.int .i64) (.pair (.int .i64) (.pair (.slice (.pair .str .str)) (.pair (.slice (.pair .str (.pair .str .bool))) (.pair .bool .str)))))))) (.pair (.int .i64) (.int .i64))))), [(0, false, (.slice (.pair .str (.pair .str (.pair .bool (.int .i64)))))), (1, false, (.slice (.pair (.int .i64) (.pair (.int .i64) (.pair (.int .i64) (.pair (.int .i64) (.pair (.slice (.pair .str .str)) (.pair (.slice (.pair .str (.pair .str .bool))) (.pair .bool .str))))))))), (2, false, (.slice (.pair (.int .i64) (.pair (.int .i64) (.pair (.int .i64) (.pair (.int .i64) (.pair (.slice (.pair .str .str)) (.pair (.slice (.pair .str (.pair .str .bool))) (.pair .bool .str))))))))), (3, false, (.int .i64)), (4, false, (.int .i64))]⟩,
  ⟨69, true, (.pair (.slice (.pair .str (.pair .str (.pair .bool (.int .i64))))) (.pair (.slice (.pair (.int .i64) (.pair (.int .i64) (.pair (.int .i64) (.pair (.int .i64) (.pair (.slice (.pair .str .str)) (.pair (.slice (.pair .str (.pair .str .bool))) (.pair .bool .str)))))))) (.pair (.slice (.pair (.int .i64) (.pair (.int .i64) (.pair (.int .i64) (.pair (.int .i64) (.pair (.slice (.pair .str .str)) (.pair (.slice (.pair .str (.pair .str .bool))) (.pair .bool .str)))))))) (.pair (.int .i64) (.int .i64))))), [(0, false, (.slice (.pair .str (.pair .str (.pair .bool (.int .i64)))))), (1, false, (.slice (.pair (.int .i64) (.pair (.int .i64) (.pair (.int .i64) (.pair (.int .i64) (.pair (.slice (.pair .str .str)) (.pair (.slice (.pair .str (.pair .str .bool))) (.pair .bool .str))))))))), (2, false, (.slice (.pair (.int .i64) (.pair (.int .i64) (.pair (.int .i64) (.pair (.int .i64) (.pair (.slice (.pair .str .str)) (.pair (.slice (.pair .str (.pair .str .bool))) (.pair .bool .str))))))))), (3, false, (.int .i64)), (4, false, (.int .i64))]⟩,
  ⟨74, false, (.slice (.pair .str (.pair .str (.pair .bool (.int .i64))))), []⟩,
  ⟨80, true, (.pair (.pair (.slice (.pair .str (.pair .str (.pair .bool (.int .i64))))) (.pair (.slice (.pair (.int .i64) (.pair (.int .i64) (.pair (.int .i64) (.pair (.int .i64) (.pair (.slice (.pair .str .str)) (.pair (.slice (.pair .str (.pair .str .bool))) (.pair .bool .str)))))))) (.pair (.slice (.pair (.int .i64) (.pair (.int .i64) (.pair (.int .i64) (.pair (.int .i64) (.pair (.slice (.pair .str .str)) (.pair (.slice (.pair .str (.pair .str .bool))) (.pair .bool .str)))))))) (.pair (.int .i64) (.int .i64))))) (.slice (.pair (.int .i64) (.pair (.int .i64) (.pair (.int .i64) (.pair (.int .i64) (.pair (.slice (.pair .str .str)) (.pair (.slice (.pair .str (.pair .str .bool))) (.pair .bool .str))))))))), [(0, true, (.pair (.slice (.pair .str (.pair .str (.pair .bool (.int .i64))))) (.pair (.slice (.pair (.int .i64) (.pair (.int .i64) (.pair (.int .i64) (.pair (.int .i64) (.pair (.slice (.pair .str .str)) (.pair (.slice (.pair .str (.pair .str .bool))) (.pair .bool .str)))))))) (.pair (.slice (.pair (.int .i64) (.pair (.int .i64) (.pair (.int .i64) (.pair (.int .i64) (.pair (.slice (.pair .str .str)) (.pair (.slice (.pair .str (.pair .str .bool))) (.pair .bool .str)))))))) (.pair (.int .i64) (.int .i64)))))), (5, false, (.slice (.pair (.int .i64) (.pair (.int .i64) (.pair (.int .i64) (.pair (.int .i64) (.pair (.slice (.pair .str .str)) (.pair (.slice (.pair .str (.pair .str .bool))) (.pair .bool .str)))))))))]⟩,
  ⟨81, true, (.pair (.pair (.slice (.pair .str (.pair .str (.pair .bool (.int .i64))))) (.pair (.slice (.pair (.int .i64) (.pair (.int .i64) (.pair (.int .i64) (.pair (.int .i64) (.pair (.slice (.pair .str .str)) (.pair (.slice (.pair .str (.pair .str .bool))) (.pair .bool .str)))))))) (.pair (.slice (.pair (.int .i64) (.pair (.int .i64) (.pair (.int .i64) (.pair (.int .i64) (.pair (.slice (.pair .str .str)) (.pair (.slice (.pair .str (.pair .str .bool))) (.pair .bool .str)))))))) (.pair (.int .i64) (.int .i64))))) (.slice (.pair (.int .i64) (.pair (.int .i64) (.pair (.int .i64) (.pair (.int .i64) (.pair (.slice (.pair .str .str)) (.pair (.slice (.pair .str (.pair .str .bool))) (.pair .bool .str))))))))), [(0, true, (.pair (.slice (.pair .str (.pair .str (.pair .bool (.int .i64))))) (.pair (.slice (.pair (.int .i64) (.pair (.int .i64) (.pair (.int .i64) (.pair (.int .i64) (.pair (.slice (.pair .str .str)) (.pair (.slice (.pair .str (.pair .str .bool))) (.pair .bool .str)))))))) (.pair (.slice (.pair (.int .i64) (.pair (.int .i64) (.pair (.int .i64) (.pair (.int .i64) (.pair (.slice (.pair .str .str)) (.pair (.slice (.pair .str (.pair .str .bool))) (.pair .bool .str)))))))) (.pair (.int .i64) (.int .i64)))))), (5, false, (.slice (.pair (.int .i64) (.pair (.int .i64) (.pair (.int .i64) (.pair (.int .i64) (.pair (.slice (.pair .str .str)) (.pair (.slice (.pair .str (.pair .str .bool))) (.pair .bool .str)))))))))]⟩,
  ⟨85, true, (.pair (.slice (.pair .str (.pair .str (.pair .bool (.int .i64))))) (.pair (.slice (.pair (.int .i64) (.pair (.int .i64) (.pair (.int .i64) (.pair (.int .i64) (.pair (.slice (.pair .str .str)) (.pair (.slice (.pair .str (.pair .str .bool))) (.pair .bool .str)))))))) (.pair (.slice (.pair (.int .i64) (.pair (.int .i64) (.pair (.int .i64) (.pair (.int .i64) (.pair (.slice (.pair .str .str)) (.pair (.slice (.pair .str (.pair .str .bool))) (.pair .bool .str)))))))) (.pair (.int .i64) (.int .i64))))), [(0, false, (.slice (.pair .str (.pair .str (.pair .bool (.int .i64)))))), (1, false, (.slice (.pair (.int .i64) (.pair (.int .i64) (.pair (.int .i64) (.pair (.int .i64) (.pair (.slice (.pair .str .str)) (.pair (.slice (.pair .str (.pair .str .bool))) (.pair .bool .str))))))))), (2, false, (.slice (.pair (.int .i64) (.pair (.int .i64) (.pair (.int .i64) (.pair (.int .i64) (.pair (.slice (.pair .str .str)) (.pair (.slice (.pair .str (.pair .str .bool))) (.pair .bool .str))))))))), (3, false, (.int .i64)), (4, false, (.int .i64))]⟩,
  ⟨86, true, (.pair (.slice (.pair .str (.pair .str (.pair .bool (.int .i64))))) (.pair (.slice (.pair (.int .i64) (.pair (.int .i64) (.pair (.int .i64) (.pair (.int .i64) (.pair (.slice (.pair .str .str)) (.pair (.slice (.pair .str (.pair .str .bool))) (.pair .bool .str)))))))) (.pair (.slice (.pair (.int .i64) (.pair (.int .i64) (.pair (.int .i64) (.pair (.int .i64) (.pair (.slice (.pair .str .str)) (.pair (.slice (.pair .str (.pair .str .bool))) (.pair .bool .str)))))))) (.pair (.int .i64) (.int .i64))))), [(0, false, (.slice (.pair .str (.pair .str (.pair .bool (.int .i64)))))), (1, false, (.slice (.pair (.int .i64) (.pair (.int .i64) (.pair (.int .i64) (.pair (.int .i64) (.pair (.slice (.pair .str .str)) (.pair (.slice (.pair .str (.pair .str .bool))) (.pair .bool .str))))))))), (2, false, (.slice (.pair (.int .i64) (.pair (.int .i64) (.pair (.int .i64) (.pair (.int .i64) (.pair (.slice (.pair .str .str)) (.pair (.slice (.pair .str (.pair .str .bool))) (.pair .bool .str))))))))), (3, false, (.int .i64)), (4, false, (.int .i64))]⟩,
  ⟨101, true, (.pair .str (.pair .str .bool)), [(0, false, .str), (1, false, .str), (2, false, .bool)]⟩,
  ⟨102, true, (.pair .str (.pair .str .bool)), [(0, false, .str), (1, false, .str), (2, false, .bool)]⟩,
  ⟨111, true, (.pair .str (.pair .str (.pair .bool (.int .i64)))), [(0, false, .str), (1, false, .str), (2, false, .bool), (3, false, (.int .i64))]⟩,
  ⟨112, true, (.pair .str (.pair .str (.pair .bool (.int .i64)))), [(0, false, .str), (1, false, .str), (2, false, .bool), (3, false, (.int .i64))]⟩,
  ⟨115, true, (.pair .str .str), [(0, false, .str), (1, false, .str)]⟩,
  ⟨116, true, (.pair .str .str), [(0, false, .str), (1, false, .str)]⟩,
  ⟨117, false, (.slice .str), []⟩,
  ⟨129, true, (.pair .str (.pair .str (.pair .bool (.int .i64)))), [(0, false, .str), (1, false, .str), (2, false, .bool), (3, false, (.int .i64))]⟩,
  ⟨134, true, (.pair .str .str), [(0, false, .str), (1, false, .str)]⟩,
  ⟨136, true, (.pair .str (.pair .str .bool)), [(0, false, .str), (1, false, .str), (2, false, .bool)]⟩,
  ⟨141, true, (.pair (.slice (.int .u8)) (.pair (.int .i64) (.int .i64))), [(0, false, (.slice (.int .u8))), (1, false, (.int .i64)), (2, false, (.int .i64))]⟩,
  ⟨142, true, (.pair (.slice (.int .u8)) (.pair (.int .i64) (.int .i64))), [(0, false, (.slice (.int .u8))), (1, false, (.int .i64)), (2, false, (.int .i64))]⟩,
  ⟨148, false, (.int .u64), []⟩,
  ⟨154, false, (.slice (.slice (.pair .str (.pair .str (.pair .bool (.int .i64)))))), []⟩,
  ⟨167, false, (.int .i64), []⟩,
  ⟨176, false, (.int .u32), []⟩,
  ⟨178, false, (.int .u64), []⟩,
  ⟨179, false, (.int .u64), []⟩,
  ⟨195, false, (.int .u8), []⟩,
  ⟨196, false, (.int .u8), []⟩,
  ⟨199, false, (.int .i32), []⟩,
  ⟨200, false, (.int .i32), []⟩]

theorem tab_all : tab.all (chkOne Try.prog) = true := by kernel_rfl

theorem follows : Try.prog.follows .mixedOrders = true := by kernel_rfl

def G0 : Glob := baseG tab

theorem G0_ok : GlobOk Try.prog G0 := baseG_ok tab_all

/-! ### loop.example/g00327/laws.szRange -/

def laws_szRange_loops : Nat → Option LoopSpec
  | _ => none

theorem laws_szRange_x (a0 : ByteArray) (a1 : ByteArray) (a2 : Int) : execFn G0 laws_szRange_loops Try.f128 [.agg [.str a0, .str a1], .int .i64 a2] [] = laws_szRange_k a0 a1 a2 (fun (y : Int) => some ⟨.ret, [.int .i64 y], []⟩) := by kernel_rfl

theorem laws_szRange_l : LoopsOk G0 ⟨0, 20, laws_szRange_loops⟩ (Try.f128.body.getD .skip) :=
  loopsOk_of (show loopsOf (Try.f128.body.getD .skip) = [] by kernel_rfl) trivial

theorem laws_szRange_c : Contract Try.prog 128 laws_szRange_g := by
  refine told G0_ok follows Try.func128 (c := Try.f128.body.getD .skip) (by kernel_rfl) ?_
  intro args s k r hk
  unfold laws_szRange_g at hk
  split at hk
  · exact ⟨laws_szRange_loops, laws_szRange_q _ _ _, laws_szRange_x _ _ _, laws_szRange_l⟩
  · cases hk

def G1 : Glob := G0.add 128 laws_szRange_g

theorem G1_ok : GlobOk Try.prog G1 := G0_ok.add ⟨Try.f128, Try.func128, by kernel_rfl, by kernel_rfl⟩ laws_szRange_c

/-! ### loop.example/g00327/laws.szRangeS -/

def laws_szRangeS_loops : Nat → Option LoopSpec
  | 0 => some ⟨[0, 1, 4, 5], fun vals st k => match vals, st with
    | [.lst (.pair .str .str) y0, .int .i64 y1, .int .i64 y2, .int .i64 y3], [] => loopK laws_szRangeS_b0 Fuel (y0, y1, y2, y3) (Sum.elim (fun z => k .ret [.lst (.pair .str .str) z.1, .int .i64 z.2.1, .int .i64 z.2.2.1, .int .i64 z.2.2.2] []) (fun z => k (.exit 0) [.lst (.pair .str .str) z.1, .int .i64 z.2.1, .int .i64 z.2.2.1, .int .i64 z.2.2.2] []))
    | _, _ => none⟩
  | _ => none

def laws_szRangeS_v0 : ((List (ByteArray × ByteArray)) × Int × Int × Int) → List AV := (fun x => [.lst (.pair .str .str) x.1, .int .i64 x.2.1, .int .i64 x.2.2.1, .int .i64 x.2.2.2])
def laws_szRangeS_s0 : ((List (ByteArray × ByteArray)) × Int × Int × Int) → St := (fun x => [])
def laws_szRangeS_e0 : (((List (ByteArray × ByteArray)) × Int × Int × Int) ⊕ ((List (ByteArray × ByteArray)) × Int × Int × Int)) → Out × List AV × St := (Sum.elim (fun z => (.ret, [.lst (.pair .str .str) z.1, .int .i64 z.2.1, .int .i64 z.2.2.1, .int .i64 z.2.2.2], [])) (fun z => ((.exit 0), [.lst (.pair .str .str) z.1, .int .i64 z.2.1, .int .i64 z.2.2.1, .int .i64 z.2.2.2], [])))

theorem laws_szRangeS_bx0 (x : ((List (ByteArray × ByteArray)) × Int × Int × Int)) : exec G1 ⟨0, 27, laws_szRangeS_loops⟩ (loopBody Try.f71 0) (bodyK ⟨0, 27, laws_szRangeS_loops⟩ [0, 1, 4, 5]) (setEs (deads 27) [0, 1, 4, 5] (laws_szRangeS_v0 x)) (laws_szRangeS_s0 x) = laws_szRangeS_b0 x (Sum.elim (fun y => some ⟨.norm, laws_szRangeS_v0 y, laws_szRangeS_s0 y⟩) fun z => some ⟨(laws_szRangeS_e0 z).1, (laws_szRangeS_e0 z).2.1, (laws_szRangeS_e0 z).2.2⟩) := by
  kernel_rfl

theorem laws_szRangeS_lo0 : ∀ sp, (laws_szRangeS_loops 0) = some sp → LoopOk G1 ⟨0, 27, laws_szRangeS_loops⟩ sp (loopBody Try.f71 0) := by
  intro sp hsp vals st k r h
  cases hsp
  dsimp only at h
  split at h
  · exact loop_runs2 laws_szRangeS_bp0 laws_szRangeS_v0 laws_szRangeS_s0 laws_szRangeS_e0 (fun z => by rcases z with z | z <;> (intro h; cases h)) laws_szRangeS_bx0 Fuel (_, _, _, _) _ k r (fun z => by rcases z with z | z <;> rfl) h
  · cases h

theorem laws_szRangeS_x (a0 : (List (ByteArray × ByteArray))) (a1 : Int) : execFn G1 laws_szRangeS_loops Try.f71 [.lst (.pair .str .str) a0, .int .i64 a1] [] = laws_szRangeS_k a0 a1 (fun (y : Int) => some ⟨.ret, [.int .i64 y], []⟩) := by kernel_rfl

theorem laws_szRangeS_l : LoopsOk G1 ⟨0, 27, laws_szRangeS_loops⟩ (Try.f71.body.getD .skip) :=
  loopsOk_of (show loopsOf (Try.f71.body.getD .skip) = [(0, loopBody Try.f71 0)] by kernel_rfl) ⟨laws_szRangeS_lo0, trivial⟩

theorem laws_szRangeS_c : Contract Try.prog 71 laws_szRangeS_g := by
  refine told G1_ok follows Try.func71 (c := Try.f71.body.getD .skip) (by kernel_rfl) ?_
  intro args s k r hk
  unfold laws_szRangeS_g at hk
  split at hk
  · exact ⟨laws_szRangeS_loops, laws_szRangeS_q _ _, laws_szRangeS_x _ _, laws_szRangeS_l⟩
  · cases hk

def G2 : Glob := G1.add 71 laws_szRangeS_g

theorem G2_ok : GlobOk Try.prog G2 := G1_ok.add ⟨Try.f71, Try.func71, by kernel_rfl, by kernel_rfl⟩ laws_szRangeS_c

/-! ### loop.example/g00327/laws.szWrite -/

def laws_szWrite_loops : Nat → Option LoopSpec
  | _ => none

theorem laws_szWrite_x (a0 : ByteArray) (a1 : ByteArray) (a2 : Bool) (a3 : Int) : execFn G2 laws_szWrite_loops Try.f129 [.agg [.str a0, .str a1, .bool a2], .int .i64 a3] [] = laws_szWrite_k a0 a1 a2 a3 (fun (y : Int) => some ⟨.ret, [.int .i64 y], []⟩) := by kernel_rfl

theorem laws_szWrite_l : LoopsOk G2 ⟨0, 20, laws_szWrite_loops⟩ (Try.f129.body.getD .skip) :=
  loopsOk_of (show loopsOf (Try.f129.body.getD .skip) = [] by kernel_rfl) trivial

theorem laws_szWrite_c : Contract Try.prog 129 laws_szWrite_g := by
  refine told G2_ok follows Try.func129 (c := Try.f129.body.getD .skip) (by kernel_rfl) ?_
  intro args s k r hk
  unfold laws_szWrite_g at hk
  split at hk
  · exact ⟨laws_szWrite_loops, laws_szWrite_q _ _ _ _, laws_szWrite_x _ _ _ _, laws_szWrite_l⟩
  · cases hk

def G3 : Glob := G2.add 129 laws_szWrite_g

theorem G3_ok : GlobOk Try.prog G3 := G2_ok.add ⟨Try.f129, Try.func129, by kernel_rfl, by kernel_rfl⟩ laws_szWrite_c

/-! ### loop.example/g00327/laws.szWriteS -/

def laws_szWriteS_loops : Nat → Option LoopSpec
  | 0 => some ⟨[0, 1, 4, 5], fun vals st k => match vals, st with
    | [.lst (.pair .str (.pair .str .bool)) y0, .int .i64 y1, .int .i64 y2, .int .i64 y3], [] => loopK laws_szWriteS_b0 Fuel (y0, y1, y2, y3) (Sum.elim (fun z => k .ret [.lst (.pair .str (.pair .str .bool)) z.1, .int .i64 z.2.1, .int .i64 z.2.2.1, .int .i64 z.2.2.2] []) (fun z => k (.exit 0) [.lst (.pair .str (.pair .str .bool)) z.1, .int .i64 z.2.1, .int .i64 z.2.2.1, .int .i64 z.2.2.2] []))
    | _, _ => none⟩
  | _ => none

def laws_szWriteS_v0 : ((List (ByteArray × (ByteArray × Bool))) × Int × Int × Int) → List AV := (fun x => [.lst (.pair .str (.pair .str .bool)) x.1, .int .i64 x.2.1, .int .i64 x.2.2.1, .int .i64 x.2.2.2])
def laws_szWriteS_s0 : ((List (ByteArray × (ByteArray × Bool))) × Int × Int × Int) → St := (fun x => [])
def laws_szWriteS_e0 : (((List (ByteArray × (ByteArray × Bool))) × Int × Int × Int) ⊕ ((List (ByteArray × (ByteArray × Bool))) × Int × Int × Int)) → Out × List AV × St := (Sum.elim (fun z => (.ret, [.lst (.pair .str (.pair .str .bool)) z.1, .int .i64 z.2.1, .int .i64 z.2.2.1, .int .i64 z.2.2.2], [])) (fun z => ((.exit 0), [.lst (.pair .str (.pair .str .bool)) z.1, .int .i64 z.2.1, .int .i64 z.2.2.1, .int .i64 z.2.2.2], [])))

theorem laws_szWriteS_bx0 (x : ((List (ByteArray × (ByteArray × Bool))) × Int × Int × Int)) : exec G3 ⟨0, 27, laws_szWriteS_loops⟩ (loopBody Try.f72 0) (bodyK ⟨0, 27, laws_szWriteS_loops⟩ [0, 1, 4, 5]) (setEs (deads 27) [0, 1, 4, 5] (laws_szWriteS_v0 x)) (laws_szWriteS_s0 x) = laws_szWriteS_b0 x (Sum.elim (fun y => some ⟨.norm, laws_szWriteS_v0 y, laws_szWriteS_s0 y⟩) fun z => some ⟨(laws_szWriteS_e0 z).1, (laws_szWriteS_e0 z).2.1, (laws_szWriteS_e0 z).2.2⟩) := by
  kernel_rfl

theorem laws_szWriteS_lo0 : ∀ sp, (laws_szWriteS_loops 0) = some sp → LoopOk G3 ⟨0, 27, laws_szWriteS_loops⟩ sp (loopBody Try.f72 0) := by
  intro sp hsp vals st k r h
  cases hsp
  dsimp only at h
  split at h
  · exact loop_runs2 laws_szWriteS_bp0 laws_szWriteS_v0 laws_szWriteS_s0 laws_szWriteS_e0 (fun z => by rcases z with z | z <;> (intro h; cases h)) laws_szWriteS_bx0 Fuel (_, _, _, _) _ k r (fun z => by rcases z with z | z <;> rfl) h
  · cases h

theorem laws_szWriteS_x (a0 : (List (ByteArray × (ByteArray × Bool)))) (a1 : Int) : execFn G3 laws_szWriteS_loops Try.f72 [.lst (.pair .str (.pair .str .bool)) a0, .int .i64 a1] [] = laws_szWriteS_k a0 a1 (fun (y : Int) => some ⟨.ret, [.int .i64 y], []⟩) := by kernel_rfl

theorem laws_szWriteS_l : LoopsOk G3 ⟨0, 27, laws_szWriteS_loops⟩ (Try.f72.body.getD .skip) :=
  loopsOk_of (show loopsOf (Try.f72.body.getD .skip) = [(0, loopBody Try.f72 0)] by kernel_rfl) ⟨laws_szWriteS_lo0, trivial⟩

theorem laws_szWriteS_c : Contract Try.prog 72 laws_szWriteS_g := by
  refine told G3_ok follows Try.func72 (c := Try.f72.body.getD .skip) (by kernel_rfl) ?_
  intro args s k r hk
  unfold laws_szWriteS_g at hk
  split at hk
  · exact ⟨laws_szWriteS_loops, laws_szWriteS_q _ _, laws_szWriteS_x _ _, laws_szWriteS_l⟩
  · cases hk

def G4 : Glob := G3.add 72 laws_szWriteS_g

theorem G4_ok : GlobOk Try.prog G4 := G3_ok.add ⟨Try.f72, Try.func72, by kernel_rfl, by kernel_rfl⟩ laws_szWriteS_c

/-! ### loop.example/g00327/laws.szTxn -/

def laws_szTxn_loops : Nat → Option LoopSpec
  | _ => none

theorem laws_szTxn_x (a0 : Int) (a1 : Int) (a2 : Int) (a3 : Int) (a4 : (List (ByteArray × ByteArray))) (a5 : (List (ByteArray × (ByteArray × Bool)))) (a6 : Bool) (a7 : ByteArray) (a8 : Int) : execFn G4 laws_szTxn_loops Try.f15 [.agg [.int .i64 a0, .int .i64 a1, .int .i64 a2, .int .i64 a3, .lst (.pair .str .str) a4, .lst (.pair .str (.pair .str .bool)) a5, .bool a6, .str a7], .int .i64 a8] [] = laws_szTxn_k a0 a1 a2 a3 a4 a5 a6 a7 a8 (fun (y : Int) => some ⟨.ret, [.int .i64 y], []⟩) := by kernel_rfl

theorem laws_szTxn_l : LoopsOk G4 ⟨0, 25, laws_szTxn_loops⟩ (Try.f15.body.getD .skip) :=
  loopsOk_of (show loopsOf (Try.f15.body.getD .skip) = [] by kernel_rfl) trivial

theorem laws_szTxn_c : Contract Try.prog 15 laws_szTxn_g := by
  refine told G4_ok follows Try.func15 (c := Try.f15.body.getD .skip) (by kernel_rfl) ?_
  intro args s k r hk
  unfold laws_szTxn_g at hk
  split at hk
  · exact ⟨laws_szTxn_loops, laws_szTxn_q _ _ _ _ _ _ _ _ _, laws_szTxn_x _ _ _ _ _ _ _ _ _, laws_szTxn_l⟩
  · cases hk

def G5 : Glob := G4.add 15 laws_szTxn_g

theorem G5_ok : GlobOk Try.prog G5 := G4_ok.add ⟨Try.f15, Try.func15, by kernel_rfl, by kernel_rfl⟩ laws_szTxn_c

/-! ### loop.example/g00327/laws.toRange -/

def laws_toRange_loops : Nat → Option LoopSpec
  | _ => none

theorem laws_toRange_x (a0 : ByteArray) (a1 : ByteArray) : execFn G5 laws_toRange_loops Try.f130 [.agg [.str a0, .str a1]] [] = laws_toRange_k a0 a1 (fun (y : (ByteArray × ByteArray)) => some ⟨.ret, [.agg [.str y.1, .str y.2]], []⟩) := by kernel_rfl

theorem laws_toRange_l : LoopsOk G5 ⟨0, 11, laws_toRange_loops⟩ (Try.f130.body.getD .skip) :=
  loopsOk_of (show loopsOf (Try.f130.body.getD .skip) = [] by kernel_rfl) trivial

theorem laws_toRange_c : Contract Try.prog 130 laws_toRange_g := by
  refine told G5_ok follows Try.func130 (c := Try.f130.body.getD .skip) (by kernel_rfl) ?_
  intro args s k r hk
  unfold laws_toRange_g at hk
  split at hk
  · exact ⟨laws_toRange_loops, laws_toRange_q _ _, laws_toRange_x _ _, laws_toRange_l⟩
  · cases hk

def G6 : Glob := G5.add 130 laws_toRange_g

theorem G6_ok : GlobOk Try.prog G6 := G5_ok.add ⟨Try.f130, Try.func130, by kernel_rfl, by kernel_rfl⟩ laws_toRange_c

/-! ### loop.example/g00327/laws.toRangeS -/

def laws_toRangeS_loops : Nat → Option LoopSpec
  | 0 => some ⟨[0, 3, 4], fun vals st k => match vals, st with
    | [.lst (.pair .str .str) y0, .own 0, .int .i64 y1], [.arr (.pair .str .str) y2] => loopK laws_toRangeS_b0 Fuel (y0, y1, y2) (fun z => k (.exit 0) [.lst (.pair .str .str) z.1, .own 0, .int .i64 z.2.1] [.arr (.pair .str .str) z.2.2])
    | _, _ => none⟩
  | _ => none

def laws_toRangeS_v0 : ((List (ByteArray × ByteArray)) × Int × (List (ByteArray × ByteArray))) → List AV := (fun x => [.lst (.pair .str .str) x.1, .own 0, .int .i64 x.2.1])
def laws_toRangeS_s0 : ((List (ByteArray × ByteArray)) × Int × (List (ByteArray × ByteArray))) → St := (fun x => [.arr (.pair .str .str) x.2.2])
def laws_toRangeS_e0 : ((List (ByteArray × ByteArray)) × Int × (List (ByteArray × ByteArray))) → Out × List AV × St := (fun z => ((.exit 0), [.lst (.pair .str .str) z.1, .own 0, .int .i64 z.2.1], [.arr (.pair .str .str) z.2.2]))

theorem laws_toRangeS_bx0 (x : ((List (ByteArray × ByteArray)) × Int × (List (ByteArray × ByteArray)))) : exec G6 ⟨0, 23, laws_toRangeS_loops⟩ (loopBody Try.f73 0) (bodyK ⟨0, 23, laws_toRangeS_loops⟩ [0, 3, 4]) (setEs (deads 23) [0, 3, 4] (laws_toRangeS_v0 x)) (laws_toRangeS_s0 x) = laws_toRangeS_b0 x (Sum.elim (fun y => some ⟨.norm, laws_toRangeS_v0 y, laws_toRangeS_s0 y⟩) fun z => some ⟨(laws_toRangeS_e0 z).1, (laws_toRangeS_e0 z).2.1, (laws_toRangeS_e0 z).2.2⟩) := by
  kernel_rfl

theorem laws_toRangeS_lo0 : ∀ sp, (laws_toRangeS_loops 0) = some sp → LoopOk G6 ⟨0, 23, laws_toRangeS_loops⟩ sp (loopBody Try.f73 0) := by
  intro sp hsp vals st k r h
  cases hsp
  dsimp only at h
  split at h
  · exact loop_runs2 laws_toRangeS_bp0 laws_toRangeS_v0 laws_toRangeS_s0 laws_toRangeS_e0 (fun z => by (intro h; cases h)) laws_toRangeS_bx0 Fuel (_, _, _) _ k r (fun z => rfl) h
  · cases h

theorem laws_toRangeS_x (a0 : (List (ByteArray × ByteArray))) : execFn G6 laws_toRangeS_loops Try.f73 [.lst (.pair .str .str) a0] [] = laws_toRangeS_k a0 (fun (y : (List (ByteArray × ByteArray))) => some ⟨.ret, [.own 0], [.arr (.pair .str .str) y]⟩) := by kernel_rfl

theorem laws_toRangeS_l : LoopsOk G6 ⟨0, 23, laws_toRangeS_loops⟩ (Try.f73.body.getD .skip) :=
  loopsOk_of (show loopsOf (Try.f73.body.getD .skip) = [(0, loopBody Try.f73 0)] by kernel_rfl) ⟨laws_toRangeS_lo0, trivial⟩

theorem laws_toRangeS_c : Contract Try.prog 73 laws_toRangeS_g := by
  refine told G6_ok follows Try.func73 (c := Try.f73.body.getD .skip) (by kernel_rfl) ?_
  intro args s k r hk
  unfold laws_toRangeS_g at hk
  split at hk
  · exact ⟨laws_toRangeS_loops, laws_toRangeS_q _, laws_toRangeS_x _, laws_toRangeS_l⟩
  · cases hk

def G7 : Glob := G6.add 73 laws_toRangeS_g

theorem G7_ok : GlobOk Try.prog G7 := G6_ok.add ⟨Try.f73, Try.func73, by kernel_rfl, by kernel_rfl⟩ laws_toRangeS_c

/-! ### loop.example/g00327/laws.toWrite -/

def laws_toWrite_loops : Nat → Option LoopSpec
  | _ => none

theorem laws_toWrite_x (a0 : ByteArray) (a1 : ByteArray) (a2 : Bool) : execFn G7 laws_toWrite_loops Try.f131 [.agg [.str a0, .str a1, .bool a2]] [] = laws_toWrite_k a0 a1 a2 (fun (y : (ByteArray × ByteArray × Bool)) => some ⟨.ret, [.agg [.str y.1, .str y.2.1, .bool y.2.2]], []⟩) := by kernel_rfl

theorem laws_toWrite_l : LoopsOk G7 ⟨0, 14, laws_toWrite_loops⟩ (Try.f131.body.getD .skip) :=
  loopsOk_of (show loopsOf (Try.f131.body.getD .skip) = [] by kernel_rfl) trivial

theorem laws_toWrite_c : Contract Try.prog 131 laws_toWrite_g := by
  refine told G7_ok follows Try.func131 (c := Try.f131.body.getD .skip) (by kernel_rfl) ?_
  intro args s k r hk
  unfold laws_toWrite_g at hk
  split at hk
  · exact ⟨laws_toWrite_loops, laws_toWrite_q _ _ _, laws_toWrite_x _ _ _, laws_toWrite_l⟩
  · cases hk

def G8 : Glob := G7.add 131 laws_toWrite_g

theorem G8_ok : GlobOk Try.prog G8 := G7_ok.add ⟨Try.f131, Try.func131, by kernel_rfl, by kernel_rfl⟩ laws_toWrite_c

/-! ### loop.example/g00327/laws.toWriteS -/

def laws_toWriteS_loops : Nat → Option LoopSpec
  | 0 => some ⟨[0, 3, 4], fun vals st k => match vals, st with
    | [.lst (.pair .str (.pair .str .bool)) y0, .own 0, .int .i64 y1], [.arr (.pair .str (.pair .str .bool)) y2] => loopK laws_toWriteS_b0 Fuel (y0, y1, y2) (fun z => k (.exit 0) [.lst (.pair .str (.pair .str .bool)) z.1, .own 0, .int .i64 z.2.1] [.arr (.pair .str (.pair .str .bool)) z.2.2])
    | _, _ => none⟩
  | _ => none

def laws_toWriteS_v0 : ((List (ByteArray × (ByteArray × Bool))) × Int × (List (ByteArray × (ByteArray × Bool)))) → List AV := (fun x => [.lst (.pair .str (.pair .str .bool)) x.1, .own 0, .int .i64 x.2.1])
def laws_toWriteS_s0 : ((List (ByteArray × (ByteArray × Bool))) × Int × (List (ByteArray × (ByteArray × Bool)))) → St := (fun x => [.arr (.pair .str (.pair .str .bool)) x.2.2])
def laws_toWriteS_e0 : ((List (ByteArray × (ByteArray × Bool))) × Int × (List (ByteArray × (ByteArray × Bool)))) → Out × List AV × St := (fun z => ((.exit 0), [.lst (.pair .str (.pair .str .bool)) z.1, .own 0, .int .i64 z.2.1], [.arr (.pair .str (.pair .str .bool)) z.2.2]))

theorem laws_toWriteS_bx0 (x : ((List (ByteArray × (ByteArray × Bool))) × Int × (List (ByteArray × (ByteArray × Bool))))) : exec G8 ⟨0, 23, laws_toWriteS_loops⟩ (loopBody Try.f74 0) (bodyK ⟨0, 23, laws_toWriteS_loops⟩ [0, 3, 4]) (setEs (deads 23) [0, 3, 4] (laws_toWriteS_v0 x)) (laws_toWriteS_s0 x) = laws_toWriteS_b0 x (Sum.elim (fun y => some ⟨.norm, laws_toWriteS_v0 y, laws_toWriteS_s0 y⟩) fun z => some ⟨(laws_toWriteS_e0 z).1, (laws_toWriteS_e0 z).2.1, (laws_toWriteS_e0 z).2.2⟩) := by
  kernel_rfl

theorem laws_toWriteS_lo0 : ∀ sp, (laws_toWriteS_loops 0) = some sp → LoopOk G8 ⟨0, 23, laws_toWriteS_loops⟩ sp (loopBody Try.f74 0) := by
  intro sp hsp vals st k r h
  cases hsp
  dsimp only at h
  split at h
  · exact loop_runs2 laws_toWriteS_bp0 laws_toWriteS_v0 laws_toWriteS_s0 laws_toWriteS_e0 (fun z => by (intro h; cases h)) laws_toWriteS_bx0 Fuel (_, _, _) _ k r (fun z => rfl) h
  · cases h

theorem laws_toWriteS_x (a0 : (List (ByteArray × (ByteArray × Bool)))) : execFn G8 laws_toWriteS_loops Try.f74 [.lst (.pair .str (.pair .str .bool)) a0] [] = laws_toWriteS_k a0 (fun (y : (List (ByteArray × (ByteArray × Bool)))) => some ⟨.ret, [.own 0], [.arr (.pair .str (.pair .str .bool)) y]⟩) := by kernel_rfl

theorem laws_toWriteS_l : LoopsOk G8 ⟨0, 23, laws_toWriteS_loops⟩ (Try.f74.body.getD .skip) :=
  loopsOk_of (show loopsOf (Try.f74.body.getD .skip) = [(0, loopBody Try.f74 0)] by kernel_rfl) ⟨laws_toWriteS_lo0, trivial⟩

theorem laws_toWriteS_c : Contract Try.prog 74 laws_toWriteS_g := by
  refine told G8_ok follows Try.func74 (c := Try.f74.body.getD .skip) (by kernel_rfl) ?_
  intro args s k r hk
  unfold laws_toWriteS_g at hk
  split at hk
  · exact ⟨laws_toWriteS_loops, laws_toWriteS_q _, laws_toWriteS_x _, laws_toWriteS_l⟩
  · cases hk

def G9 : Glob := G8.add 74 laws_toWriteS_g

theorem G9_ok : GlobOk Try.prog G9 := G8_ok.add ⟨Try.f74, Try.func74, by kernel_rfl, by kernel_rfl⟩ laws_toWriteS_c

/-! ### loop.example/g00327/laws.toTxn -/

def laws_toTxn_loops : Nat → Option LoopSpec
  | _ => none

theorem laws_toTxn_x (a0 : Int) (a1 : Int) (a2 : Int) (a3 : Int) (a4 : (List (ByteArray × ByteArray))) (a5 : (List (ByteArray × (ByteArray × Bool)))) (a6 : Bool) (a7 : ByteArray) : execFn G9 laws_toTxn_loops Try.f17 [.agg [.int .i64 a0, .int .i64 a1, .int .i64 a2, .int .i64 a3, .lst (.pair .str .str) a4, .lst (.pair .str (.pair .str .bool)) a5, .bool a6, .str a7]] [] = laws_toTxn_k a0 a1 a2 a3 a4 a5 a6 a7 (fun (y : (Int × Int × Int × Int × Bool × ByteArray × (List (ByteArray × ByteArray)) × (List (ByteArray × (ByteArray × Bool))))) => some ⟨.ret, [.agg [.int .i64 y.1, .int .i64 y.2.1, .int .i64 y.2.2.1, .int .i64 y.2.2.2.1, .own 0, .own 1, .bool y.2.2.2.2.1, .str y.2.2.2.2.2.1]], [.arr (.pair .str .str) y.2.2.2.2.2.2.1, .arr (.pair .str (.pair .str .bool)) y.2.2.2.2.2.2.2]⟩) := by kernel_rfl

theorem laws_toTxn_l : LoopsOk G9 ⟨0, 31, laws_toTxn_loops⟩ (Try.f17.body.getD .skip) :=
  loopsOk_of (show loopsOf (Try.f17.body.getD .skip) = [] by kernel_rfl) trivial

theorem laws_toTxn_c : Contract Try.prog 17 laws_toTxn_g := by
  refine told G9_ok follows Try.func17 (c := Try.f17.body.getD .skip) (by kernel_rfl) ?_
  intro args s k r hk
  unfold laws_toTxn_g at hk
  split at hk
  · exact ⟨laws_toTxn_loops, laws_toTxn_q _ _ _ _ _ _ _ _, laws_toTxn_x _ _ _ _ _ _ _ _, laws_toTxn_l⟩
  · cases hk

def G10 : Glob := G9.add 17 laws_toTxn_g

theorem G10_ok : GlobOk Try.prog G10 := G9_ok.add ⟨Try.f17, Try.func17, by kernel_rfl, by kernel_rfl⟩ laws_toTxn_c

/-! ### loop.example/g00327/spec.Beside -/

def spec_Beside_loops : Nat → Option LoopSpec
  | _ => none

theorem spec_Beside_x (a0 : Int) (a1 : Int) (a2 : Int) (a3 : Int) (a4 : (List (ByteArray × ByteArray))) (a5 : (List (ByteArray × (ByteArray × Bool)))) (a6 : Bool) (a7 : ByteArray) (a8 : Int) (a9 : Int) (a10 : Int) (a11 : Int) (a12 : (List (ByteArray × ByteArray))) (a13 : (List (ByteArray × (ByteArray × Bool)))) (a14 : Bool) (a15 : ByteArray) : execFn G10 spec_Beside_loops Try.f16 [.agg [.int .i64 a0, .int .i64 a1, .int .i64 a2, .int .i64 a3, .lst (.pair .str .str) a4, .lst (.pair .str (.pair .str .bool)) a5, .bool a6, .str a7], .agg [.int .i64 a8, .int .i64 a9, .int .i64 a10, .int .i64 a11, .lst (.pair .str .str) a12, .lst (.pair .str (.pair .str .bool)) a13, .bool a14, .str a15]] [] = spec_Beside_k a0 a1 a2 a3 a4 a5 a6 a7 a8 a9 a10 a11 a12 a13 a14 a15 (fun (y : Bool) => some ⟨.ret, [.bool y], []⟩) := by kernel_rfl

theorem spec_Beside_l : LoopsOk G10 ⟨0, 32, spec_Beside_loops⟩ (Try.f16.body.getD .skip) :=
  loopsOk_of (show loopsOf (Try.f16.body.getD .skip) = [] by kernel_rfl) trivial

theorem spec_Beside_c : Contract Try.prog 16 spec_Beside_g := by
  refine told G10_ok follows Try.func16 (c := Try.f16.body.getD .skip) (by kernel_rfl) ?_
  intro args s k r hk
  unfold spec_Beside_g at hk
  split at hk
  · exact ⟨spec_Beside_loops, spec_Beside_q _ _ _ _ _ _ _ _ _ _ _ _ _ _ _ _, spec_Beside_x _ _ _ _ _ _ _ _ _ _ _ _ _ _ _ _, spec_Beside_l⟩
  · cases hk

def G11 : Glob := G10.add 16 spec_Beside_g

theorem G11_ok : GlobOk Try.prog G11 := G10_ok.add ⟨Try.f16, Try.func16, by kernel_rfl, by kernel_rfl⟩ spec_Beside_c

/-! ### loop.example/g00327/impl.Beside$1 -/

def impl_Beside_1_loops : Nat → Option LoopSpec
  | _ => none

theorem impl_Beside_1_x (a0 : Int) (a1 : Int) (a2 : Int) (a3 : Int) (a4 : (List (ByteArray × ByteArray))) (a5 : (List (ByteArray × (ByteArray × Bool)))) (a6 : Bool) (a7 : ByteArray) (a8 : Int) (a9 : Int) (a10 : Int) (a11 : Int) (a12 : (List (ByteArray × ByteArray))) (a13 : (List (ByteArray × (ByteArray × Bool)))) (a14 : Bool) (a15 : ByteArray) : execFn G11 impl_Beside_1_loops Try.f75 [.agg [.int .i64 a0, .int .i64 a1, .int .i64 a2, .int .i64 a3, .lst (.pair .str .str) a4, .lst (.pair .str (.pair .str .bool)) a5, .bool a6, .str a7], .agg [.int .i64 a8, .int .i64 a9, .int .i64 a10, .int .i64 a11, .lst (.pair .str .str) a12, .lst (.pair .str (.pair .str .bool)) a13, .bool a14, .str a15]] [] = impl_Beside_1_k a0 a1 a2 a3 a4 a5 a6 a7 a8 a9 a10 a11 a12 a13 a14 a15 (fun (y : Bool) => some ⟨.ret, [.bool y], []⟩) := by kernel_rfl

theorem impl_Beside_1_l : LoopsOk G11 ⟨0, 15, impl_Beside_1_loops⟩ (Try.f75.body.getD .skip) :=
  loopsOk_of (show loopsOf (Try.f75.body.getD .skip) = [] by kernel_rfl) trivial

theorem impl_Beside_1_c : Contract Try.prog 75 impl_Beside_1_g := by
  refine told G11_ok follows Try.func75 (c := Try.f75.body.getD .skip) (by kernel_rfl) ?_
  intro args s k r hk
  unfold impl_Beside_1_g at hk
  split at hk
  · exact ⟨impl_Beside_1_loops, impl_Beside_1_q _ _ _ _ _ _ _ _ _ _ _ _ _ _ _ _, impl_Beside_1_x _ _ _ _ _ _ _ _ _ _ _ _ _ _ _ _, impl_Beside_1_l⟩
  · cases hk

def G12 : Glob := G11.add 75 impl_Beside_1_g

theorem G12_ok : GlobOk Try.prog G12 := G11_ok.add ⟨Try.f75, Try.func75, by kernel_rfl, by kernel_rfl⟩ impl_Beside_1_c

/-! ### loop.example/g00327/impl.Beside -/

def impl_Beside_loops : Nat → Option LoopSpec
  | _ => none

theorem impl_Beside_x (a0 : Int) (a1 : Int) (a2 : Int) (a3 : Int) (a4 : (List (ByteArray × ByteArray))) (a5 : (List (ByteArray × (ByteArray × Bool)))) (a6 : Bool) (a7 : ByteArray) (a8 : Int) (a9 : Int) (a10 : Int) (a11 : Int) (a12 : (List (ByteArray × ByteArray))) (a13 : (List (ByteArray × (ByteArray × Bool)))) (a14 : Bool) (a15 : ByteArray) : execFn G12 impl_Beside_loops Try.f18 [.agg [.int .i64 a0, .int .i64 a1, .int .i64 a2, .int .i64 a3, .lst (.pair .str .str) a4, .lst (.pair .str (.pair .str .bool)) a5, .bool a6, .str a7], .agg [.int .i64 a8, .int .i64 a9, .int .i64 a10, .int .i64 a11, .lst (.pair .str .str) a12, .lst (.pair .str (.pair .str .bool)) a13, .bool a14, .str a15]] [] = impl_Beside_k a0 a1 a2 a3 a4 a5 a6 a7 a8 a9 a10 a11 a12 a13 a14 a15 (fun (y : Bool) => some ⟨.ret, [.bool y], []⟩) := by kernel_rfl

theorem impl_Beside_l : LoopsOk G12 ⟨0, 25, impl_Beside_loops⟩ (Try.f18.body.getD .skip) :=
  loopsOk_of (show loopsOf (Try.f18.body.getD .skip) = [] by kernel_rfl) trivial

theorem impl_Beside_c : Contract Try.prog 18 impl_Beside_g := by
  refine told G12_ok follows Try.func18 (c := Try.f18.body.getD .skip) (by kernel_rfl) ?_
  intro args s k r hk
  unfold impl_Beside_g at hk
  split at hk
  · exact ⟨impl_Beside_loops, impl_Beside_q _ _ _ _ _ _ _ _ _ _ _ _ _ _ _ _, impl_Beside_x _ _ _ _ _ _ _ _ _ _ _ _ _ _ _ _, impl_Beside_l⟩
  · cases hk

def G13 : Glob := G12.add 18 impl_Beside_g

theorem G13_ok : GlobOk Try.prog G13 := G12_ok.add ⟨Try.f18, Try.func18, by kernel_rfl, by kernel_rfl⟩ impl_Beside_c

/-! ### loop.example/g00327/laws.eqRange -/

def laws_eqRange_loops : Nat → Option LoopSpec
  | _ => none

theorem laws_eqRange_x (a0 : ByteArray) (a1 : ByteArray) (a2 : ByteArray) (a3 : ByteArray) : execFn G13 laws_eqRange_loops Try.f132 [.agg [.str a0, .str a1], .agg [.str a2, .str a3]] [] = laws_eqRange_k a0 a1 a2 a3 (fun (y : Bool) => some ⟨.ret, [.bool y], []⟩) := by kernel_rfl

theorem laws_eqRange_l : LoopsOk G13 ⟨0, 15, laws_eqRange_loops⟩ (Try.f132.body.getD .skip) :=
  loopsOk_of (show loopsOf (Try.f132.body.getD .skip) = [] by kernel_rfl) trivial

theorem laws_eqRange_c : Contract Try.prog 132 laws_eqRange_g := by
  refine told G13_ok follows Try.func132 (c := Try.f132.body.getD .skip) (by kernel_rfl) ?_
  intro args s k r hk
  unfold laws_eqRange_g at hk
  split at hk
  · exact ⟨laws_eqRange_loops, laws_eqRange_q _ _ _ _, laws_eqRange_x _ _ _ _, laws_eqRange_l⟩
  · cases hk

def G14 : Glob := G13.add 132 laws_eqRange_g

theorem G14_ok : GlobOk Try.prog G14 := G13_ok.add ⟨Try.f132, Try.func132, by kernel_rfl, by kernel_rfl⟩ laws_eqRange_c

/-! ### loop.example/g00327/laws.eqRangeS -/

def laws_eqRangeS_loops : Nat → Option LoopSpec
  | 0 => some ⟨[0, 1, 4, 5], fun vals st k => match vals, st with
    | [.lst (.pair .str .str) y0, .lst (.pair .str .str) y1, .bool y2, .int .i64 y3], [] => loopK laws_eqRangeS_b0 Fuel (y0, y1, y2, y3) (Sum.elim (fun z => k .ret [.lst (.pair .str .str) z.1, .lst (.pair .str .str) z.2.1, .bool z.2.2.1, .int .i64 z.2.2.2] []) (fun z => k (.exit 0) [.lst (.pair .str .str) z.1, .lst (.pair .str .str) z.2.1, .bool z.2.2.1, .int .i64 z.2.2.2] []))
    | _, _ => none⟩
  | _ => none

def laws_eqRangeS_v0 : ((List (ByteArray × ByteArray)) × (List (ByteArray × ByteArray)) × Bool × Int) → List AV := (fun x => [.lst (.pair .str .str) x.1, .lst (.pair .str .str) x.2.1, .bool x.2.2.1, .int .i64 x.2.2.2])
def laws_eqRangeS_s0 : ((List (ByteArray × ByteArray)) × (List (ByteArray × ByteArray)) × Bool × Int) → St := (fun x => [])
def laws_eqRangeS_e0 : (((List (ByteArray × ByteArray)) × (List (ByteArray × ByteArray)) × Bool × Int) ⊕ ((List (ByteArray × ByteArray)) × (List (ByteArray × ByteArray)) × Bool × Int)) → Out × List AV × St := (Sum.elim (fun z => (.ret, [.lst (.pair .str .str) z.1, .lst (.pair .str .str) z.2.1, .bool z.2.2.1, .int .i64 z.2.2.2], [])) (fun z => ((.exit 0), [.lst (.pair .str .str) z.1, .lst (.pair .str .str) z.2.1, .bool z.2.2.1, .int .i64 z.2.2.2], [])))

theorem laws_eqRangeS_bx0 (x : ((List (ByteArray × ByteArray)) × (List (ByteArray × ByteArray)) × Bool × Int)) : exec G14 ⟨0, 27, laws_eqRangeS_loops⟩ (loopBody Try.f76 0) (bodyK ⟨0, 27, laws_eqRangeS_loops⟩ [0, 1, 4, 5]) (setEs (deads 27) [0, 1, 4, 5] (laws_eqRangeS_v0 x)) (laws_eqRangeS_s0 x) = laws_eqRangeS_b0 x (Sum.elim (fun y => some ⟨.norm, laws_eqRangeS_v0 y, laws_eqRangeS_s0 y⟩) fun z => some ⟨(laws_eqRangeS_e0 z).1, (laws_eqRangeS_e0 z).2.1, (laws_eqRangeS_e0 z).2.2⟩) := by
  kernel_rfl

theorem laws_eqRangeS_lo0 : ∀ sp, (laws_eqRangeS_loops 0) = some sp → LoopOk G14 ⟨0, 27, laws_eqRangeS_loops⟩ sp (loopBody Try.f76 0) := by
  intro sp hsp vals st k r h
  cases hsp
  dsimp only at h
  split at h
  · exact loop_runs2 laws_eqRangeS_bp0 laws_eqRangeS_v0 laws_eqRangeS_s0 laws_eqRangeS_e0 (fun z => by rcases z with z | z <;> (intro h; cases h)) laws_eqRangeS_bx0 Fuel (_, _, _, _) _ k r (fun z => by rcases z with z | z <;> rfl) h
  · cases h

theorem laws_eqRangeS_x (a0 : (List (ByteArray × ByteArray))) (a1 : (List (ByteArray × ByteArray))) : execFn G14 laws_eqRangeS_loops Try.f76 [.lst (.pair .str .str) a0, .lst (.pair .str .str) a1] [] = laws_eqRangeS_k a0 a1 (fun (y : Bool) => some ⟨.ret, [.bool y], []⟩) := by kernel_rfl

theorem laws_eqRangeS_l : LoopsOk G14 ⟨0, 27, laws_eqRangeS_loops⟩ (Try.f76.body.getD .skip) :=
  loopsOk_of (show loopsOf (Try.f76.body.getD .skip) = [(0, loopBody Try.f76 0)] by kernel_rfl) ⟨laws_eqRangeS_lo0, trivial⟩

theorem laws_eqRangeS_c : Contract Try.prog 76 laws_eqRangeS_g := by
  refine told G14_ok follows Try.func76 (c := Try.f76.body.getD .skip) (by kernel_rfl) ?_
  intro args s k r hk
  unfold laws_eqRangeS_g at hk
  split at hk
  · exact ⟨laws_eqRangeS_loops, laws_eqRangeS_q _ _, laws_eqRangeS_x _ _, laws_eqRangeS_l⟩
  · cases hk

def G15 : Glob := G14.add 76 laws_eqRangeS_g

theorem G15_ok : GlobOk Try.prog G15 := G14_ok.add ⟨Try.f76, Try.func76, by kernel_rfl, by kernel_rfl⟩ laws_eqRangeS_c

/-! ### loop.example/g00327/laws.eqWrite -/

def laws_eqWrite_loops : Nat → Option LoopSpec
  | _ => none

theorem laws_eqWrite_x (a0 : ByteArray) (a1 : ByteArray) (a2 : Bool) (a3 : ByteArray) (a4 : ByteArray) (a5 : Bool) : execFn G15 laws_eqWrite_loops Try.f133 [.agg [.str a0, .str a1, .bool a2], .agg [.str a3, .str a4, .bool a5]] [] = laws_eqWrite_k a0 a1 a2 a3 a4 a5 (fun (y : Bool) => some ⟨.ret, [.bool y], []⟩) := by kernel_rfl

theorem laws_eqWrite_l : LoopsOk G15 ⟨0, 20, laws_eqWrite_loops⟩ (Try.f133.body.getD .skip) :=
  loopsOk_of (show loopsOf (Try.f133.body.getD .skip) = [] by kernel_rfl) trivial

theorem laws_eqWrite_c : Contract Try.prog 133 laws_eqWrite_g := by
  refine told G15_ok follows Try.func133 (c := Try.f133.body.getD .skip) (by kernel_rfl) ?_
  intro args s k r hk
  unfold laws_eqWrite_g at hk
  split at hk
  · exact ⟨laws_eqWrite_loops, laws_eqWrite_q _ _ _ _ _ _, laws_eqWrite_x _ _ _ _ _ _, laws_eqWrite_l⟩
  · cases hk

def G16 : Glob := G15.add 133 laws_eqWrite_g

theorem G16_ok : GlobOk Try.prog G16 := G15_ok.add ⟨Try.f133, Try.func133, by kernel_rfl, by kernel_rfl⟩ laws_eqWrite_c

/-! ### loop.example/g00327/laws.eqWriteS -/

def laws_eqWriteS_loops : Nat → Option LoopSpec
  | 0 => some ⟨[0, 1, 4, 5], fun vals st k => match vals, st with
    | [.lst (.pair .str (.pair .str .bool)) y0, .lst (.pair .str (.pair .str .bool)) y1, .bool y2, .int .i64 y3], [] => loopK laws_eqWriteS_b0 Fuel (y0, y1, y2, y3) (Sum.elim (fun z => k .ret [.lst (.pair .str (.pair .str .bool)) z.1, .lst (.pair .str (.pair .str .bool)) z.2.1, .bool z.2.2.1, .int .i64 z.2.2.2] []) (fun z => k (.exit 0) [.lst (.pair .str (.pair .str .bool)) z.1, .lst (.pair .str (.pair .str .bool)) z.2.1, .bool z.2.2.1, .int .i64 z.2.2.2] []))
    | _, _ => none⟩
  | _ => none

def laws_eqWriteS_v0 : ((List (ByteArray × (ByteArray × Bool))) × (List (ByteArray × (ByteArray × Bool))) × Bool × Int) → List AV := (fun x => [.lst (.pair .str (.pair .str .bool)) x.1, .lst (.pair .str (.pair .str .bool)) x.2.1, .bool x.2.2.1, .int .i64 x.2.2.2])
def laws_eqWriteS_s0 : ((List (ByteArray × (ByteArray × Bool))) × (List (ByteArray × (ByteArray × Bool))) × Bool × Int) → St := (fun x => [])
def laws_eqWriteS_e0 : (((List (ByteArray × (ByteArray × Bool))) × (List (ByteArray × (ByteArray × Bool))) × Bool × Int) ⊕ ((List (ByteArray × (ByteArray × Bool))) × (List (ByteArray × (ByteArray × Bool))) × Bool × Int)) → Out × List AV × St := (Sum.elim (fun z => (.ret, [.lst (.pair .str (.pair .str .bool)) z.1, .lst (.pair .str (.pair .str .bool)) z.2.1, .bool z.2.2.1, .int .i64 z.2.2.2], [])) (fun z => ((.exit 0), [.lst (.pair .str (.pair .str .bool)) z.1, .lst (.pair .str (.pair .str .bool)) z.2.1, .bool z.2.2.1, .int .i64 z.2.2.2], [])))

theorem laws_eqWriteS_bx0 (x : ((List (ByteArray × (ByteArray × Bool))) × (List (ByteArray × (ByteArray × Bool))) × Bool × Int)) : exec G16 ⟨0, 27, laws_eqWriteS_loops⟩ (loopBody Try.f77 0) (bodyK ⟨0, 27, laws_eqWriteS_loops⟩ [0, 1, 4, 5]) (setEs (deads 27) [0, 1, 4, 5] (laws_eqWriteS_v0 x)) (laws_eqWriteS_s0 x) = laws_eqWriteS_b0 x (Sum.elim (fun y => some ⟨.norm, laws_eqWriteS_v0 y, laws_eqWriteS_s0 y⟩) fun z => some ⟨(laws_eqWriteS_e0 z).1, (laws_eqWriteS_e0 z).2.1, (laws_eqWriteS_e0 z).2.2⟩) := by
  kernel_rfl

theorem laws_eqWriteS_lo0 : ∀ sp, (laws_eqWriteS_loops 0) = some sp → LoopOk G16 ⟨0, 27, laws_eqWriteS_loops⟩ sp (loopBody Try.f77 0) := by
  intro sp hsp vals st k r h
  cases hsp
  dsimp only at h
  split at h
  · exact loop_runs2 laws_eqWriteS_bp0 laws_eqWriteS_v0 laws_eqWriteS_s0 laws_eqWriteS_e0 (fun z => by rcases z with z | z <;> (intro h; cases h)) laws_eqWriteS_bx0 Fuel (_, _, _, _) _ k r (fun z => by rcases z with z | z <;> rfl) h
  · cases h

theorem laws_eqWriteS_x (a0 : (List (ByteArray × (ByteArray × Bool)))) (a1 : (List (ByteArray × (ByteArray × Bool)))) : execFn G16 laws_eqWriteS_loops Try.f77 [.lst (.pair .str (.pair .str .bool)) a0, .lst (.pair .str (.pair .str .bool)) a1] [] = laws_eqWriteS_k a0 a1 (fun (y : Bool) => some ⟨.ret, [.bool y], []⟩) := by kernel_rfl

theorem laws_eqWriteS_l : LoopsOk G16 ⟨0, 27, laws_eqWriteS_loops⟩ (Try.f77.body.getD .skip) :=
  loopsOk_of (show loopsOf (Try.f77.body.getD .skip) = [(0, loopBody Try.f77 0)] by kernel_rfl) ⟨laws_eqWriteS_lo0, trivial⟩

theorem laws_eqWriteS_c : Contract Try.prog 77 laws_eqWriteS_g := by
  refine told G16_ok follows Try.func77 (c := Try.f77.body.getD .skip) (by kernel_rfl) ?_
  intro args s k r hk
  unfold laws_eqWriteS_g at hk
  split at hk
  · exact ⟨laws_eqWriteS_loops, laws_eqWriteS_q _ _, laws_eqWriteS_x _ _, laws_eqWriteS_l⟩
  · cases hk

def G17 : Glob := G16.add 77 laws_eqWriteS_g

theorem G17_ok : GlobOk Try.prog G17 := G16_ok.add ⟨Try.f77, Try.func77, by kernel_rfl, by kernel_rfl⟩ laws_eqWriteS_c

/-! ### loop.example/g00327/laws.eqTxn -/

def laws_eqTxn_loops : Nat → Option LoopSpec
  | _ => none

theorem laws_eqTxn_x (a0 : Int) (a1 : Int) (a2 : Int) (a3 : Int) (a4 : (List (ByteArray × ByteArray))) (a5 : (List (ByteArray × (ByteArray × Bool)))) (a6 : Bool) (a7 : ByteArray) (a8 : Int) (a9 : Int) (a10 : Int) (a11 : Int) (a12 : (List (ByteArray × ByteArray))) (a13 : (List (ByteArray × (ByteArray × Bool)))) (a14 : Bool) (a15 : ByteArray) : execFn G17 laws_eqTxn_loops Try.f19 [.agg [.int .i64 a0, .int .i64 a1, .int .i64 a2, .int .i64 a3, .lst (.pair .str .str) a4, .lst (.pair .str (.pair .str .bool)) a5, .bool a6, .str a7], .agg [.int .i64 a8, .int .i64 a9, .int .i64 a10, .int .i64 a11, .lst (.pair .str .str) a12, .lst (.pair .str (.pair .str .bool)) a13, .bool a14, .str a15]] [] = laws_eqTxn_k a0 a1 a2 a3 a4 a5 a6 a7 a8 a9 a10 a11 a12 a13 a14 a15 (fun (y : Bool) => some ⟨.ret, [.bool y], []⟩) := by kernel_rfl

theorem laws_eqTxn_l : LoopsOk G17 ⟨0, 47, laws_eqTxn_loops⟩ (Try.f19.body.getD .skip) :=
  loopsOk_of (show loopsOf (Try.f19.body.getD .skip) = [] by kernel_rfl) trivial

theorem laws_eqTxn_c : Contract Try.prog 19 laws_eqTxn_g := by
  refine told G17_ok follows Try.func19 (c := Try.f19.body.getD .skip) (by kernel_rfl) ?_
  intro args s k r hk
  unfold laws_eqTxn_g at hk
  split at hk
  · exact ⟨laws_eqTxn_loops, laws_eqTxn_q _ _ _ _ _ _ _ _ _ _ _ _ _ _ _ _, laws_eqTxn_x _ _ _ _ _ _ _ _ _ _ _ _ _ _ _ _, laws_eqTxn_l⟩
  · cases hk

def G18 : Glob := G17.add 19 laws_eqTxn_g

theorem G18_ok : GlobOk Try.prog G18 := G17_ok.add ⟨Try.f19, Try.func19, by kernel_rfl, by kernel_rfl⟩ laws_eqTxn_c

/-! ### loop.example/g00327/laws.FnExactBeside -/

def laws_FnExactBeside_loops : Nat → Option LoopSpec
  | _ => none

theorem laws_FnExactBeside_x (a0 : Int) (a1 : Int) (a2 : Int) (a3 : Int) (a4 : (List (ByteArray × ByteArray))) (a5 : (List (ByteArray × (ByteArray × Bool)))) (a6 : Bool) (a7 : ByteArray) (a8 : Int) (a9 : Int) (a10 : Int) (a11 : Int) (a12 : (List (ByteArray × ByteArray))) (a13 : (List (ByteArray × (ByteArray × Bool)))) (a14 : Bool) (a15 : ByteArray) : execFn G18 laws_FnExactBeside_loops Try.f3 [.agg [.int .i64 a0, .int .i64 a1, .int .i64 a2, .int .i64 a3, .lst (.pair .str .str) a4, .lst (.pair .str (.pair .str .bool)) a5, .bool a6, .str a7], .agg [.int .i64 a8, .int .i64 a9, .int .i64 a10, .int .i64 a11, .lst (.pair .str .str) a12, .lst (.pair .str (.pair .str .bool)) a13, .bool a14, .str a15]] [] = laws_FnExactBeside_k a0 a1 a2 a3 a4 a5 a6 a7 a8 a9 a10 a11 a12 a13 a14 a15 (fun (y : Bool) => some ⟨.ret, [.bool y], []⟩) := by kernel_rfl

theorem laws_FnExactBeside_l : LoopsOk G18 ⟨0, 45, laws_FnExactBeside_loops⟩ (Try.f3.body.getD .skip) :=
  loopsOk_of (show loopsOf (Try.f3.body.getD .skip) = [] by kernel_rfl) trivial

theorem laws_FnExactBeside_c : Contract Try.prog 3 laws_FnExactBeside_g := by
  refine told G18_ok follows Try.func3 (c := Try.f3.body.getD .skip) (by kernel_rfl) ?_
  intro args s k r hk
  unfold laws_FnExactBeside_g at hk
  split at hk
  · exact ⟨laws_FnExactBeside_loops, laws_FnExactBeside_q _ _ _ _ _ _ _ _ _ _ _ _ _ _ _ _, laws_FnExactBeside_x _ _ _ _ _ _ _ _ _ _ _ _ _ _ _ _, laws_FnExactBeside_l⟩
  · cases hk

def G19 : Glob := G18.add 3 laws_FnExactBeside_g

theorem G19_ok : GlobOk Try.prog G19 := G18_ok.add ⟨Try.f3, Try.func3, by kernel_rfl, by kernel_rfl⟩ laws_FnExactBeside_c

end

end Go.VE
