/- Each function told by its native program; written by gen.py. -/

import Derived.Test.YtbedbcnmfoildaaSameFromS0

namespace Go.VE

open Go.Proofs

noncomputable section

set_option linter.unusedVariables false
set_option linter.unusedSimpArgs false
set_option maxRecDepth 100000




def laws_szVersion_loops : Nat → Option LoopSpec
  | _ => none

theorem laws_szVersion_y (a0 : ByteArray) (a1 : ByteArray) (a2 : Bool) (a3 : Int) (a4 : Int) : execFn G0 laws_szVersion_loops Try.f117 [.agg [.str a0, .str a1, .bool a2, .int .i64 a3], .int .i64 a4] [] = laws_szVersion_k (a0, (a1, (a2, a3))) a4 (fun (y : Int) => some ⟨.ret, [.int .i64 y], []⟩) := by rw [laws_szVersion_e]; kernel_rfl

theorem laws_szVersion_l : LoopsOk G0 ⟨0, 20, laws_szVersion_loops⟩ (Try.f117.body.getD .skip) :=
  loopsOk_of (ids := []) (by kernel_rfl) (by kernel_rfl) trivial

theorem laws_szVersion_c : Contract Try.prog 117 laws_szVersion_g := by
  refine told G0_ok follows Try.func117 (c := Try.f117.body.getD .skip) (by kernel_rfl) ?_
  intro args s k r hk
  unfold laws_szVersion_g at hk
  rcases onPats_inv hk with ⟨p, q, rfl, rfl⟩ | hk
  · exact ⟨laws_szVersion_loops, laws_szVersion_q p.1.1 p.1.2.1 p.1.2.2.1 p.1.2.2.2.1 p.2.1, laws_szVersion_y p.1.1 p.1.2.1 p.1.2.2.1 p.1.2.2.2.1 p.2.1, laws_szVersion_l⟩
  cases hk

def G1 : Glob := G0.add 117 laws_szVersion_g

theorem G1_ok : GlobOk Try.prog G1 := G0_ok.add ⟨Try.f117, Try.func117, by kernel_rfl, by kernel_rfl⟩ laws_szVersion_c



def laws_szVersionS_loops : Nat → Option LoopSpec
  | 0 => some ⟨[0, 1, 4, 5], [], fun vals st k => onPats [.lst tVersion, .int .i64, .int .i64, .int .i64] [] vals st (fun p q => loopK laws_szVersionS_b0 Fuel (p.1, p.2.1, p.2.2.1, p.2.2.2.1) (Sum.elim (fun z => k .ret [.lst tVersion z.1, .int .i64 z.2.1, .int .i64 z.2.2.1, .int .i64 z.2.2.2] []) (fun z => k (.exit 0) [.lst tVersion z.1, .int .i64 z.2.1, .int .i64 z.2.2.1, .int .i64 z.2.2.2] [])))
      (none)⟩
  | _ => none

def laws_szVersionS_v0 : ((List dVersion) × Int × Int × Int) → List AV := (fun x => [.lst tVersion x.1, .int .i64 x.2.1, .int .i64 x.2.2.1, .int .i64 x.2.2.2])
def laws_szVersionS_s0 : ((List dVersion) × Int × Int × Int) → St := (fun x => [])
def laws_szVersionS_e0 : (((List dVersion) × Int × Int × Int) ⊕ ((List dVersion) × Int × Int × Int)) → Out × List AV × St := (Sum.elim (fun z => (.ret, [.lst tVersion z.1, .int .i64 z.2.1, .int .i64 z.2.2.1, .int .i64 z.2.2.2], [])) (fun z => ((.exit 0), [.lst tVersion z.1, .int .i64 z.2.1, .int .i64 z.2.2.1, .int .i64 z.2.2.2], [])))

theorem laws_szVersionS_bx0 (x : ((List dVersion) × Int × Int × Int)) : exec G1 ⟨0, 27, laws_szVersionS_loops⟩ (loopBody Try.f38 0) (bodyK ⟨0, 27, laws_szVersionS_loops⟩ [0, 1, 4, 5] []) (setEs (deads 27) [0, 1, 4, 5] (laws_szVersionS_v0 x)) (laws_szVersionS_s0 x) = laws_szVersionS_b0 x (Sum.elim (fun y => some ⟨.norm, laws_szVersionS_v0 y, laws_szVersionS_s0 y⟩) fun z => some ⟨(laws_szVersionS_e0 z).1, (laws_szVersionS_e0 z).2.1, (laws_szVersionS_e0 z).2.2⟩) := by
  kernel_rfl

theorem laws_szVersionS_lo0 : ∀ sp, (laws_szVersionS_loops 0) = some sp → LoopOk G1 ⟨0, 27, laws_szVersionS_loops⟩ sp (loopBody Try.f38 0) := by
  intro sp hsp vals st k r h
  cases hsp
  dsimp only at h
  rcases onPats_inv2 h with ⟨p, q, rfl, rfl, h⟩ | h
  · exact loop_runs2 laws_szVersionS_bp0 laws_szVersionS_v0 laws_szVersionS_s0 laws_szVersionS_e0 (fun z => by rcases z with z | z <;> (intro h; cases h)) laws_szVersionS_bx0 Fuel (p.1, p.2.1, p.2.2.1, p.2.2.2.1) _ k r (fun z => by rcases z with z | z <;> rfl) h
  cases h

theorem laws_szVersionS_y (a0 : (List dVersion)) (a1 : Int) : execFn G1 laws_szVersionS_loops Try.f38 [.lst tVersion a0, .int .i64 a1] [] = laws_szVersionS_k a0 a1 (fun (y : Int) => some ⟨.ret, [.int .i64 y], []⟩) := by rw [laws_szVersionS_e]; kernel_rfl

theorem laws_szVersionS_l : LoopsOk G1 ⟨0, 27, laws_szVersionS_loops⟩ (Try.f38.body.getD .skip) :=
  loopsOk_of (ids := [0]) (by kernel_rfl) (by kernel_rfl) ⟨laws_szVersionS_lo0, trivial⟩

theorem laws_szVersionS_c : Contract Try.prog 38 laws_szVersionS_g := by
  refine told G1_ok follows Try.func38 (c := Try.f38.body.getD .skip) (by kernel_rfl) ?_
  intro args s k r hk
  unfold laws_szVersionS_g at hk
  rcases onPats_inv hk with ⟨p, q, rfl, rfl⟩ | hk
  · exact ⟨laws_szVersionS_loops, laws_szVersionS_q p.1 p.2.1, laws_szVersionS_y p.1 p.2.1, laws_szVersionS_l⟩
  cases hk

def G2 : Glob := G1.add 38 laws_szVersionS_g

theorem G2_ok : GlobOk Try.prog G2 := G1_ok.add ⟨Try.f38, Try.func38, by kernel_rfl, by kernel_rfl⟩ laws_szVersionS_c



def laws_toVersion_loops : Nat → Option LoopSpec
  | _ => none

theorem laws_toVersion_y (a0 : ByteArray) (a1 : ByteArray) (a2 : Bool) (a3 : Int) : execFn G2 laws_toVersion_loops Try.f118 [.agg [.str a0, .str a1, .bool a2, .int .i64 a3]] [] = laws_toVersion_k (a0, (a1, (a2, a3))) (fun (y : (ByteArray × ByteArray × Bool × Int)) => some ⟨.ret, [.agg [.str y.1, .str y.2.1, .bool y.2.2.1, .int .i64 y.2.2.2]], []⟩) := by rw [laws_toVersion_e]; kernel_rfl

theorem laws_toVersion_l : LoopsOk G2 ⟨0, 17, laws_toVersion_loops⟩ (Try.f118.body.getD .skip) :=
  loopsOk_of (ids := []) (by kernel_rfl) (by kernel_rfl) trivial

theorem laws_toVersion_c : Contract Try.prog 118 laws_toVersion_g := by
  refine told G2_ok follows Try.func118 (c := Try.f118.body.getD .skip) (by kernel_rfl) ?_
  intro args s k r hk
  unfold laws_toVersion_g at hk
  rcases onPats_inv hk with ⟨p, q, rfl, rfl⟩ | hk
  · exact ⟨laws_toVersion_loops, laws_toVersion_q p.1.1 p.1.2.1 p.1.2.2.1 p.1.2.2.2.1, laws_toVersion_y p.1.1 p.1.2.1 p.1.2.2.1 p.1.2.2.2.1, laws_toVersion_l⟩
  cases hk

def G3 : Glob := G2.add 118 laws_toVersion_g

theorem G3_ok : GlobOk Try.prog G3 := G2_ok.add ⟨Try.f118, Try.func118, by kernel_rfl, by kernel_rfl⟩ laws_toVersion_c



def laws_toVersionS_loops : Nat → Option LoopSpec
  | 0 => some ⟨[0, 3, 4], [], fun vals st k => onPats [.lst tVersion, .own 0, .int .i64] [.arr tVersion] vals st (fun p q => loopK laws_toVersionS_b0 Fuel (p.1, p.2.2.1, q.1) (fun z => k (.exit 0) [.lst tVersion z.1, .own 0, .int .i64 z.2.1] [.arr tVersion z.2.2]))
      (none)⟩
  | _ => none

def laws_toVersionS_v0 : ((List dVersion) × Int × (List dVersion)) → List AV := (fun x => [.lst tVersion x.1, .own 0, .int .i64 x.2.1])
def laws_toVersionS_s0 : ((List dVersion) × Int × (List dVersion)) → St := (fun x => [.arr tVersion x.2.2])
def laws_toVersionS_e0 : ((List dVersion) × Int × (List dVersion)) → Out × List AV × St := (fun z => ((.exit 0), [.lst tVersion z.1, .own 0, .int .i64 z.2.1], [.arr tVersion z.2.2]))

theorem laws_toVersionS_bx0 (x : ((List dVersion) × Int × (List dVersion))) : exec G3 ⟨0, 23, laws_toVersionS_loops⟩ (loopBody Try.f41 0) (bodyK ⟨0, 23, laws_toVersionS_loops⟩ [0, 3, 4] []) (setEs (deads 23) [0, 3, 4] (laws_toVersionS_v0 x)) (laws_toVersionS_s0 x) = laws_toVersionS_b0 x (Sum.elim (fun y => some ⟨.norm, laws_toVersionS_v0 y, laws_toVersionS_s0 y⟩) fun z => some ⟨(laws_toVersionS_e0 z).1, (laws_toVersionS_e0 z).2.1, (laws_toVersionS_e0 z).2.2⟩) := by
  kernel_rfl

theorem laws_toVersionS_lo0 : ∀ sp, (laws_toVersionS_loops 0) = some sp → LoopOk G3 ⟨0, 23, laws_toVersionS_loops⟩ sp (loopBody Try.f41 0) := by
  intro sp hsp vals st k r h
  cases hsp
  dsimp only at h
  rcases onPats_inv2 h with ⟨p, q, rfl, rfl, h⟩ | h
  · exact loop_runs2 laws_toVersionS_bp0 laws_toVersionS_v0 laws_toVersionS_s0 laws_toVersionS_e0 (fun z => by (intro h; cases h)) laws_toVersionS_bx0 Fuel (p.1, p.2.2.1, q.1) _ k r (fun z => rfl) h
  cases h

theorem laws_toVersionS_y (a0 : (List dVersion)) : execFn G3 laws_toVersionS_loops Try.f41 [.lst tVersion a0] [] = laws_toVersionS_k a0 (fun (y : (List dVersion)) => some ⟨.ret, [.own 0], [.arr tVersion y]⟩) := by rw [laws_toVersionS_e]; kernel_rfl

theorem laws_toVersionS_l : LoopsOk G3 ⟨0, 23, laws_toVersionS_loops⟩ (Try.f41.body.getD .skip) :=
  loopsOk_of (ids := [0]) (by kernel_rfl) (by kernel_rfl) ⟨laws_toVersionS_lo0, trivial⟩

theorem laws_toVersionS_c : Contract Try.prog 41 laws_toVersionS_g := by
  refine told G3_ok follows Try.func41 (c := Try.f41.body.getD .skip) (by kernel_rfl) ?_
  intro args s k r hk
  unfold laws_toVersionS_g at hk
  rcases onPats_inv hk with ⟨p, q, rfl, rfl⟩ | hk
  · exact ⟨laws_toVersionS_loops, laws_toVersionS_q p.1, laws_toVersionS_y p.1, laws_toVersionS_l⟩
  cases hk

def G4 : Glob := G3.add 41 laws_toVersionS_g

theorem G4_ok : GlobOk Try.prog G4 := G3_ok.add ⟨Try.f41, Try.func41, by kernel_rfl, by kernel_rfl⟩ laws_toVersionS_c



def spec_l06All_loops : Nat → Option LoopSpec
  | _ => none

theorem spec_l06All_y  : execFn G4 spec_l06All_loops Try.f156 [] [] = spec_l06All_k  (fun (y : (ByteArray × ByteArray)) => some ⟨.ret, [.agg [.str y.1, .str y.2]], []⟩) := by rw [spec_l06All_e]; kernel_rfl

theorem spec_l06All_l : LoopsOk G4 ⟨0, 2, spec_l06All_loops⟩ (Try.f156.body.getD .skip) :=
  loopsOk_of (ids := []) (by kernel_rfl) (by kernel_rfl) trivial

theorem spec_l06All_c : Contract Try.prog 156 spec_l06All_g := by
  refine told G4_ok follows Try.func156 (c := Try.f156.body.getD .skip) (by kernel_rfl) ?_
  intro args s k r hk
  unfold spec_l06All_g at hk
  rcases onPats_inv hk with ⟨p, q, rfl, rfl⟩ | hk
  · exact ⟨spec_l06All_loops, spec_l06All_q , spec_l06All_y , spec_l06All_l⟩
  cases hk

def G5 : Glob := G4.add 156 spec_l06All_g

theorem G5_ok : GlobOk Try.prog G5 := G4_ok.add ⟨Try.f156, Try.func156, by kernel_rfl, by kernel_rfl⟩ spec_l06All_c



def spec_InRange_loops : Nat → Option LoopSpec
  | _ => none

theorem spec_InRange_y (a0 : ByteArray) (a1 : ByteArray) (a2 : ByteArray) : execFn G5 spec_InRange_loops Try.f203 [.agg [.str a0, .str a1], .str a2] [] = spec_InRange_k (a0, a1) a2 (fun (y : Bool) => some ⟨.ret, [.bool y], []⟩) := by rw [spec_InRange_e]; kernel_rfl

theorem spec_InRange_l : LoopsOk G5 ⟨0, 15, spec_InRange_loops⟩ (Try.f203.body.getD .skip) :=
  loopsOk_of (ids := []) (by kernel_rfl) (by kernel_rfl) trivial

theorem spec_InRange_c : Contract Try.prog 203 spec_InRange_g := by
  refine told G5_ok follows Try.func203 (c := Try.f203.body.getD .skip) (by kernel_rfl) ?_
  intro args s k r hk
  unfold spec_InRange_g at hk
  rcases onPats_inv hk with ⟨p, q, rfl, rfl⟩ | hk
  · exact ⟨spec_InRange_loops, spec_InRange_q p.1.1 p.1.2.1 p.2.1, spec_InRange_y p.1.1 p.1.2.1 p.2.1, spec_InRange_l⟩
  cases hk

def G6 : Glob := G5.add 203 spec_InRange_g

theorem G6_ok : GlobOk Try.prog G6 := G5_ok.add ⟨Try.f203, Try.func203, by kernel_rfl, by kernel_rfl⟩ spec_InRange_c



def spec_l06Keys_loops : Nat → Option LoopSpec
  | 2 => some ⟨[0, 3, 5, 6, 7, 8, 9], [], fun vals st k => onPats [.lst tVersion, .bp 0 0, .own 1, .int .i64, .str, .own 2, .int .i64] [.box [.str, .str], .arr .str, .arr .str] vals st (fun p q => loopK spec_l06Keys_b2 Fuel (p.1, p.2.2.2.1, p.2.2.2.2.1, p.2.2.2.2.2.2.1, q.1.1, q.1.2.1, q.2.1, q.2.2.1) (fun z => k (.exit 2) [.lst tVersion z.1, .bp 0 0, .own 1, .int .i64 z.2.1, .str z.2.2.1, .own 2, .int .i64 z.2.2.2.1] [.box [.str z.2.2.2.2.1, .str z.2.2.2.2.2.1], .arr .str z.2.2.2.2.2.2.1, .arr .str z.2.2.2.2.2.2.2]))
      (none)⟩
  | 4 => some ⟨[0, 3, 5, 6, 7, 8, 10], [], fun vals st k => onPats [.lst tVersion, .bp 0 0, .own 1, .int .i64, .str, .own 2, .int .i64] [.box [.str, .str], .arr .str, .arr .str] vals st (fun p q => loopK spec_l06Keys_b4 Fuel (p.1, p.2.2.2.1, p.2.2.2.2.1, p.2.2.2.2.2.2.1, q.1.1, q.1.2.1, q.2.1, q.2.2.1) (fun z => k (.exit 4) [.lst tVersion z.1, .bp 0 0, .own 1, .int .i64 z.2.1, .str z.2.2.1, .own 2, .int .i64 z.2.2.2.1] [.box [.str z.2.2.2.2.1, .str z.2.2.2.2.2.1], .arr .str z.2.2.2.2.2.2.1, .arr .str z.2.2.2.2.2.2.2]))
      (none)⟩
  | 0 => some ⟨[0, 3, 5, 6], [], fun vals st k => onPats [.lst tVersion, .bp 0 0, .own 1, .int .i64] [.box [.str, .str], .arr .str] vals st (fun p q => loopK spec_l06Keys_b0 Fuel (p.1, p.2.2.2.1, q.1.1, q.1.2.1, q.2.1) (fun z => k (.exit 0) [.lst tVersion z.1, .bp 0 0, .own 1, .int .i64 z.2.1] [.box [.str z.2.2.1, .str z.2.2.2.1], .arr .str z.2.2.2.2]))
      (none)⟩
  | _ => none

def spec_l06Keys_v2 : ((List dVersion) × Int × ByteArray × Int × ByteArray × ByteArray × (List ByteArray) × (List ByteArray)) → List AV := (fun x => [.lst tVersion x.1, .bp 0 0, .own 1, .int .i64 x.2.1, .str x.2.2.1, .own 2, .int .i64 x.2.2.2.1])
def spec_l06Keys_s2 : ((List dVersion) × Int × ByteArray × Int × ByteArray × ByteArray × (List ByteArray) × (List ByteArray)) → St := (fun x => [.box [.str x.2.2.2.2.1, .str x.2.2.2.2.2.1], .arr .str x.2.2.2.2.2.2.1, .arr .str x.2.2.2.2.2.2.2])
def spec_l06Keys_e2 : ((List dVersion) × Int × ByteArray × Int × ByteArray × ByteArray × (List ByteArray) × (List ByteArray)) → Out × List AV × St := (fun z => ((.exit 2), [.lst tVersion z.1, .bp 0 0, .own 1, .int .i64 z.2.1, .str z.2.2.1, .own 2, .int .i64 z.2.2.2.1], [.box [.str z.2.2.2.2.1, .str z.2.2.2.2.2.1], .arr .str z.2.2.2.2.2.2.1, .arr .str z.2.2.2.2.2.2.2]))

theorem spec_l06Keys_bx2 (x : ((List dVersion) × Int × ByteArray × Int × ByteArray × ByteArray × (List ByteArray) × (List ByteArray))) : exec G6 ⟨0, 72, spec_l06Keys_loops⟩ (loopBody Try.f162 2) (bodyK ⟨0, 72, spec_l06Keys_loops⟩ [0, 3, 5, 6, 7, 8, 9] []) (setEs (deads 72) [0, 3, 5, 6, 7, 8, 9] (spec_l06Keys_v2 x)) (spec_l06Keys_s2 x) = spec_l06Keys_b2 x (Sum.elim (fun y => some ⟨.norm, spec_l06Keys_v2 y, spec_l06Keys_s2 y⟩) fun z => some ⟨(spec_l06Keys_e2 z).1, (spec_l06Keys_e2 z).2.1, (spec_l06Keys_e2 z).2.2⟩) := by
  kernel_rfl

theorem spec_l06Keys_lo2 : ∀ sp, (spec_l06Keys_loops 2) = some sp → LoopOk G6 ⟨0, 72, spec_l06Keys_loops⟩ sp (loopBody Try.f162 2) := by
  intro sp hsp vals st k r h
  cases hsp
  dsimp only at h
  rcases onPats_inv2 h with ⟨p, q, rfl, rfl, h⟩ | h
  · exact loop_runs2 spec_l06Keys_bp2 spec_l06Keys_v2 spec_l06Keys_s2 spec_l06Keys_e2 (fun z => by (intro h; cases h)) spec_l06Keys_bx2 Fuel (p.1, p.2.2.2.1, p.2.2.2.2.1, p.2.2.2.2.2.2.1, q.1.1, q.1.2.1, q.2.1, q.2.2.1) _ k r (fun z => rfl) h
  cases h

def spec_l06Keys_v4 : ((List dVersion) × Int × ByteArray × Int × ByteArray × ByteArray × (List ByteArray) × (List ByteArray)) → List AV := (fun x => [.lst tVersion x.1, .bp 0 0, .own 1, .int .i64 x.2.1, .str x.2.2.1, .own 2, .int .i64 x.2.2.2.1])
def spec_l06Keys_s4 : ((List dVersion) × Int × ByteArray × Int × ByteArray × ByteArray × (List ByteArray) × (List ByteArray)) → St := (fun x => [.box [.str x.2.2.2.2.1, .str x.2.2.2.2.2.1], .arr .str x.2.2.2.2.2.2.1, .arr .str x.2.2.2.2.2.2.2])
def spec_l06Keys_e4 : ((List dVersion) × Int × ByteArray × Int × ByteArray × ByteArray × (List ByteArray) × (List ByteArray)) → Out × List AV × St := (fun z => ((.exit 4), [.lst tVersion z.1, .bp 0 0, .own 1, .int .i64 z.2.1, .str z.2.2.1, .own 2, .int .i64 z.2.2.2.1], [.box [.str z.2.2.2.2.1, .str z.2.2.2.2.2.1], .arr .str z.2.2.2.2.2.2.1, .arr .str z.2.2.2.2.2.2.2]))

theorem spec_l06Keys_bx4 (x : ((List dVersion) × Int × ByteArray × Int × ByteArray × ByteArray × (List ByteArray) × (List ByteArray))) : exec G6 ⟨0, 72, spec_l06Keys_loops⟩ (loopBody Try.f162 4) (bodyK ⟨0, 72, spec_l06Keys_loops⟩ [0, 3, 5, 6, 7, 8, 10] []) (setEs (deads 72) [0, 3, 5, 6, 7, 8, 10] (spec_l06Keys_v4 x)) (spec_l06Keys_s4 x) = spec_l06Keys_b4 x (Sum.elim (fun y => some ⟨.norm, spec_l06Keys_v4 y, spec_l06Keys_s4 y⟩) fun z => some ⟨(spec_l06Keys_e4 z).1, (spec_l06Keys_e4 z).2.1, (spec_l06Keys_e4 z).2.2⟩) := by
  kernel_rfl

theorem spec_l06Keys_lo4 : ∀ sp, (spec_l06Keys_loops 4) = some sp → LoopOk G6 ⟨0, 72, spec_l06Keys_loops⟩ sp (loopBody Try.f162 4) := by
  intro sp hsp vals st k r h
  cases hsp
  dsimp only at h
  rcases onPats_inv2 h with ⟨p, q, rfl, rfl, h⟩ | h
  · exact loop_runs2 spec_l06Keys_bp4 spec_l06Keys_v4 spec_l06Keys_s4 spec_l06Keys_e4 (fun z => by (intro h; cases h)) spec_l06Keys_bx4 Fuel (p.1, p.2.2.2.1, p.2.2.2.2.1, p.2.2.2.2.2.2.1, q.1.1, q.1.2.1, q.2.1, q.2.2.1) _ k r (fun z => rfl) h
  cases h

def spec_l06Keys_v0 : ((List dVersion) × Int × ByteArray × ByteArray × (List ByteArray)) → List AV := (fun x => [.lst tVersion x.1, .bp 0 0, .own 1, .int .i64 x.2.1])
def spec_l06Keys_s0 : ((List dVersion) × Int × ByteArray × ByteArray × (List ByteArray)) → St := (fun x => [.box [.str x.2.2.1, .str x.2.2.2.1], .arr .str x.2.2.2.2])
def spec_l06Keys_e0 : ((List dVersion) × Int × ByteArray × ByteArray × (List ByteArray)) → Out × List AV × St := (fun z => ((.exit 0), [.lst tVersion z.1, .bp 0 0, .own 1, .int .i64 z.2.1], [.box [.str z.2.2.1, .str z.2.2.2.1], .arr .str z.2.2.2.2]))

theorem spec_l06Keys_bx0 (x : ((List dVersion) × Int × ByteArray × ByteArray × (List ByteArray))) : exec G6 ⟨0, 72, spec_l06Keys_loops⟩ (loopBody Try.f162 0) (bodyK ⟨0, 72, spec_l06Keys_loops⟩ [0, 3, 5, 6] []) (setEs (deads 72) [0, 3, 5, 6] (spec_l06Keys_v0 x)) (spec_l06Keys_s0 x) = spec_l06Keys_b0 x (Sum.elim (fun y => some ⟨.norm, spec_l06Keys_v0 y, spec_l06Keys_s0 y⟩) fun z => some ⟨(spec_l06Keys_e0 z).1, (spec_l06Keys_e0 z).2.1, (spec_l06Keys_e0 z).2.2⟩) := by
  kernel_rfl

theorem spec_l06Keys_lo0 : ∀ sp, (spec_l06Keys_loops 0) = some sp → LoopOk G6 ⟨0, 72, spec_l06Keys_loops⟩ sp (loopBody Try.f162 0) := by
  intro sp hsp vals st k r h
  cases hsp
  dsimp only at h
  rcases onPats_inv2 h with ⟨p, q, rfl, rfl, h⟩ | h
  · exact loop_runs2 spec_l06Keys_bp0 spec_l06Keys_v0 spec_l06Keys_s0 spec_l06Keys_e0 (fun z => by (intro h; cases h)) spec_l06Keys_bx0 Fuel (p.1, p.2.2.2.1, q.1.1, q.1.2.1, q.2.1) _ k r (fun z => rfl) h
  cases h

theorem spec_l06Keys_y (a0 : (List dVersion)) (a1 : ByteArray) (a2 : ByteArray) : execFn G6 spec_l06Keys_loops Try.f162 [.lst tVersion a0, .agg [.str a1, .str a2]] [] = spec_l06Keys_k a0 (a1, a2) (fun (y : (List ByteArray)) => some ⟨.ret, [.own 0], [.arr .str y]⟩) := by rw [spec_l06Keys_e]; kernel_rfl

theorem spec_l06Keys_l : LoopsOk G6 ⟨0, 72, spec_l06Keys_loops⟩ (Try.f162.body.getD .skip) :=
  loopsOk_of (ids := [2, 4, 0]) (by kernel_rfl) (by kernel_rfl) ⟨spec_l06Keys_lo2, ⟨spec_l06Keys_lo4, ⟨spec_l06Keys_lo0, trivial⟩⟩⟩

theorem spec_l06Keys_c : Contract Try.prog 162 spec_l06Keys_g := by
  refine told G6_ok follows Try.func162 (c := Try.f162.body.getD .skip) (by kernel_rfl) ?_
  intro args s k r hk
  unfold spec_l06Keys_g at hk
  rcases onPats_inv hk with ⟨p, q, rfl, rfl⟩ | hk
  · exact ⟨spec_l06Keys_loops, spec_l06Keys_q p.1 p.2.1.1 p.2.1.2.1, spec_l06Keys_y p.1 p.2.1.1 p.2.1.2.1, spec_l06Keys_l⟩
  cases hk

def G7 : Glob := G6.add 162 spec_l06Keys_g

theorem G7_ok : GlobOk Try.prog G7 := G6_ok.add ⟨Try.f162, Try.func162, by kernel_rfl, by kernel_rfl⟩ spec_l06Keys_c



def spec_l06At_loops : Nat → Option LoopSpec
  | 0 => some ⟨[0, 1, 2, 7, 8], [], fun vals st k => onPats [.lst tVersion, .str, .int .i64, .int .i64, .int .i64] [] vals st (fun p q => loopK spec_l06At_b0 Fuel (p.1, p.2.1, p.2.2.1, p.2.2.2.1, p.2.2.2.2.1) (fun z => k (.exit 0) [.lst tVersion z.1, .str z.2.1, .int .i64 z.2.2.1, .int .i64 z.2.2.2.1, .int .i64 z.2.2.2.2] []))
      (none)⟩
  | 2000005 => some ⟨[0, 2, 4, 6, 8, 10, 12, 14, 16, 18, 20, 22, 24, 26, 28, 30, 32, 34, 36, 38, 40, 42, 44, 46, 48, 50, 52, 54, 56, 58, 60, 62, 64], [], fun _ _ _ => none⟩
  | _ => none

def spec_l06At_v0 : ((List dVersion) × ByteArray × Int × Int × Int) → List AV := (fun x => [.lst tVersion x.1, .str x.2.1, .int .i64 x.2.2.1, .int .i64 x.2.2.2.1, .int .i64 x.2.2.2.2])
def spec_l06At_s0 : ((List dVersion) × ByteArray × Int × Int × Int) → St := (fun x => [])
def spec_l06At_e0 : ((List dVersion) × ByteArray × Int × Int × Int) → Out × List AV × St := (fun z => ((.exit 0), [.lst tVersion z.1, .str z.2.1, .int .i64 z.2.2.1, .int .i64 z.2.2.2.1, .int .i64 z.2.2.2.2], []))

theorem spec_l06At_bx0 (x : ((List dVersion) × ByteArray × Int × Int × Int)) : exec G7 ⟨0, 50, spec_l06At_loops⟩ (loopBody Try.f204 0) (bodyK ⟨0, 50, spec_l06At_loops⟩ [0, 1, 2, 7, 8] []) (setEs (deads 50) [0, 1, 2, 7, 8] (spec_l06At_v0 x)) (spec_l06At_s0 x) = spec_l06At_b0 x (Sum.elim (fun y => some ⟨.norm, spec_l06At_v0 y, spec_l06At_s0 y⟩) fun z => some ⟨(spec_l06At_e0 z).1, (spec_l06At_e0 z).2.1, (spec_l06At_e0 z).2.2⟩) := by
  kernel_rfl

theorem spec_l06At_lo0 : ∀ sp, (spec_l06At_loops 0) = some sp → LoopOk G7 ⟨0, 50, spec_l06At_loops⟩ sp (loopBody Try.f204 0) := by
  intro sp hsp vals st k r h
  cases hsp
  dsimp only at h
  rcases onPats_inv2 h with ⟨p, q, rfl, rfl, h⟩ | h
  · exact loop_runs2 spec_l06At_bp0 spec_l06At_v0 spec_l06At_s0 spec_l06At_e0 (fun z => by (intro h; cases h)) spec_l06At_bx0 Fuel (p.1, p.2.1, p.2.2.1, p.2.2.2.1, p.2.2.2.2.1) _ k r (fun z => rfl) h
  cases h

theorem spec_l06At_y (a0 : (List dVersion)) (a1 : ByteArray) (a2 : Int) : execFn G7 spec_l06At_loops Try.f204 [.lst tVersion a0, .str a1, .int .i64 a2] [] = spec_l06At_k a0 a1 a2 (fun (y : Int) => some ⟨.ret, [.int .i64 y], []⟩) := by rw [spec_l06At_e]; kernel_rfl

theorem spec_l06At_l : LoopsOk G7 ⟨0, 50, spec_l06At_loops⟩ (Try.f204.body.getD .skip) :=
  loopsOk_of (ids := [0]) (by kernel_rfl) (by kernel_rfl) ⟨spec_l06At_lo0, trivial⟩

theorem spec_l06At_c : Contract Try.prog 204 spec_l06At_g := by
  refine told G7_ok follows Try.func204 (c := Try.f204.body.getD .skip) (by kernel_rfl) ?_
  intro args s k r hk
  unfold spec_l06At_g at hk
  rcases onPats_inv hk with ⟨p, q, rfl, rfl⟩ | hk
  · exact ⟨spec_l06At_loops, spec_l06At_q p.1 p.2.1 p.2.2.1, spec_l06At_y p.1 p.2.1 p.2.2.1, spec_l06At_l⟩
  cases hk

def G8 : Glob := G7.add 204 spec_l06At_g

theorem G8_ok : GlobOk Try.prog G8 := G7_ok.add ⟨Try.f204, Try.func204, by kernel_rfl, by kernel_rfl⟩ spec_l06At_c



def spec_SeenAt_loops : Nat → Option LoopSpec
  | _ => none

theorem spec_SeenAt_y (a0 : (List dVersion)) (a1 : ByteArray) (a2 : Int) : execFn G8 spec_SeenAt_loops Try.f163 [.lst tVersion a0, .str a1, .int .i64 a2] [] = spec_SeenAt_k a0 a1 a2 (fun (y : (ByteArray × Bool)) => some ⟨.ret, [.tup [.str y.1, .bool y.2]], []⟩) := by rw [spec_SeenAt_e]; kernel_rfl

theorem spec_SeenAt_l : LoopsOk G8 ⟨0, 27, spec_SeenAt_loops⟩ (Try.f163.body.getD .skip) :=
  loopsOk_of (ids := []) (by kernel_rfl) (by kernel_rfl) trivial

theorem spec_SeenAt_c : Contract Try.prog 163 spec_SeenAt_g := by
  refine told G8_ok follows Try.func163 (c := Try.f163.body.getD .skip) (by kernel_rfl) ?_
  intro args s k r hk
  unfold spec_SeenAt_g at hk
  rcases onPats_inv hk with ⟨p, q, rfl, rfl⟩ | hk
  · exact ⟨spec_SeenAt_loops, spec_SeenAt_q p.1 p.2.1 p.2.2.1, spec_SeenAt_y p.1 p.2.1 p.2.2.1, spec_SeenAt_l⟩
  cases hk

def G9 : Glob := G8.add 163 spec_SeenAt_g

theorem G9_ok : GlobOk Try.prog G9 := G8_ok.add ⟨Try.f163, Try.func163, by kernel_rfl, by kernel_rfl⟩ spec_SeenAt_c



def spec_ScanAt_loops : Nat → Option LoopSpec
  | 0 => some ⟨[0, 2, 7, 8, 9], [], fun vals st k => onPats [.lst tVersion, .int .i64, .own 0, .own 1, .int .i64] [.arr tRange, .arr .str] vals st (fun p q => loopK spec_ScanAt_b0 Fuel (p.1, p.2.1, p.2.2.2.2.1, q.1, q.2.1) (fun z => k (.exit 0) [.lst tVersion z.1, .int .i64 z.2.1, .own 0, .own 1, .int .i64 z.2.2.1] [.arr tRange z.2.2.2.1, .arr .str z.2.2.2.2]))
      (none)⟩
  | _ => none

def spec_ScanAt_v0 : ((List dVersion) × Int × Int × (List dRange) × (List ByteArray)) → List AV := (fun x => [.lst tVersion x.1, .int .i64 x.2.1, .own 0, .own 1, .int .i64 x.2.2.1])
def spec_ScanAt_s0 : ((List dVersion) × Int × Int × (List dRange) × (List ByteArray)) → St := (fun x => [.arr tRange x.2.2.2.1, .arr .str x.2.2.2.2])
def spec_ScanAt_e0 : ((List dVersion) × Int × Int × (List dRange) × (List ByteArray)) → Out × List AV × St := (fun z => ((.exit 0), [.lst tVersion z.1, .int .i64 z.2.1, .own 0, .own 1, .int .i64 z.2.2.1], [.arr tRange z.2.2.2.1, .arr .str z.2.2.2.2]))

theorem spec_ScanAt_bx0 (x : ((List dVersion) × Int × Int × (List dRange) × (List ByteArray))) : exec G9 ⟨0, 43, spec_ScanAt_loops⟩ (loopBody Try.f74 0) (bodyK ⟨0, 43, spec_ScanAt_loops⟩ [0, 2, 7, 8, 9] []) (setEs (deads 43) [0, 2, 7, 8, 9] (spec_ScanAt_v0 x)) (spec_ScanAt_s0 x) = spec_ScanAt_b0 x (Sum.elim (fun y => some ⟨.norm, spec_ScanAt_v0 y, spec_ScanAt_s0 y⟩) fun z => some ⟨(spec_ScanAt_e0 z).1, (spec_ScanAt_e0 z).2.1, (spec_ScanAt_e0 z).2.2⟩) := by
  kernel_rfl

theorem spec_ScanAt_lo0 : ∀ sp, (spec_ScanAt_loops 0) = some sp → LoopOk G9 ⟨0, 43, spec_ScanAt_loops⟩ sp (loopBody Try.f74 0) := by
  intro sp hsp vals st k r h
  cases hsp
  dsimp only at h
  rcases onPats_inv2 h with ⟨p, q, rfl, rfl, h⟩ | h
  · exact loop_runs2 spec_ScanAt_bp0 spec_ScanAt_v0 spec_ScanAt_s0 spec_ScanAt_e0 (fun z => by (intro h; cases h)) spec_ScanAt_bx0 Fuel (p.1, p.2.1, p.2.2.2.2.1, q.1, q.2.1) _ k r (fun z => rfl) h
  cases h

theorem spec_ScanAt_y (a0 : (List dVersion)) (a1 : ByteArray) (a2 : ByteArray) (a3 : Int) : execFn G9 spec_ScanAt_loops Try.f74 [.lst tVersion a0, .agg [.str a1, .str a2], .int .i64 a3] [] = spec_ScanAt_k a0 (a1, a2) a3 (fun (y : (List dRange)) => some ⟨.ret, [.own 0], [.arr tRange y]⟩) := by rw [spec_ScanAt_e]; kernel_rfl

theorem spec_ScanAt_l : LoopsOk G9 ⟨0, 43, spec_ScanAt_loops⟩ (Try.f74.body.getD .skip) :=
  loopsOk_of (ids := [0]) (by kernel_rfl) (by kernel_rfl) ⟨spec_ScanAt_lo0, trivial⟩

theorem spec_ScanAt_c : Contract Try.prog 74 spec_ScanAt_g := by
  refine told G9_ok follows Try.func74 (c := Try.f74.body.getD .skip) (by kernel_rfl) ?_
  intro args s k r hk
  unfold spec_ScanAt_g at hk
  rcases onPats_inv hk with ⟨p, q, rfl, rfl⟩ | hk
  · exact ⟨spec_ScanAt_loops, spec_ScanAt_q p.1 p.2.1.1 p.2.1.2.1 p.2.2.1, spec_ScanAt_y p.1 p.2.1.1 p.2.1.2.1 p.2.2.1, spec_ScanAt_l⟩
  cases hk

def G10 : Glob := G9.add 74 spec_ScanAt_g

theorem G10_ok : GlobOk Try.prog G10 := G9_ok.add ⟨Try.f74, Try.func74, by kernel_rfl, by kernel_rfl⟩ spec_ScanAt_c



def spec_l06Pairs_loops : Nat → Option LoopSpec
  | 0 => some ⟨[0, 1, 4, 5], [], fun vals st k => onPats [.lst tRange, .lst tRange, .bool, .int .i64] [] vals st (fun p q => loopK spec_l06Pairs_b0 Fuel (p.1, p.2.1, p.2.2.1, p.2.2.2.1) (Sum.elim (fun z => k .ret [.lst tRange z.1, .lst tRange z.2.1, .bool z.2.2.1, .int .i64 z.2.2.2] []) (fun z => k (.exit 0) [.lst tRange z.1, .lst tRange z.2.1, .bool z.2.2.1, .int .i64 z.2.2.2] [])))
      (none)⟩
  | 2000006 => some ⟨[0, 2, 4, 6, 8, 10, 12, 14, 16], [], fun _ _ _ => none⟩
  | _ => none

def spec_l06Pairs_v0 : ((List dRange) × (List dRange) × Bool × Int) → List AV := (fun x => [.lst tRange x.1, .lst tRange x.2.1, .bool x.2.2.1, .int .i64 x.2.2.2])
def spec_l06Pairs_s0 : ((List dRange) × (List dRange) × Bool × Int) → St := (fun x => [])
def spec_l06Pairs_e0 : (((List dRange) × (List dRange) × Bool × Int) ⊕ ((List dRange) × (List dRange) × Bool × Int)) → Out × List AV × St := (Sum.elim (fun z => (.ret, [.lst tRange z.1, .lst tRange z.2.1, .bool z.2.2.1, .int .i64 z.2.2.2], [])) (fun z => ((.exit 0), [.lst tRange z.1, .lst tRange z.2.1, .bool z.2.2.1, .int .i64 z.2.2.2], [])))

theorem spec_l06Pairs_bx0 (x : ((List dRange) × (List dRange) × Bool × Int)) : exec G10 ⟨0, 26, spec_l06Pairs_loops⟩ (loopBody Try.f157 0) (bodyK ⟨0, 26, spec_l06Pairs_loops⟩ [0, 1, 4, 5] []) (setEs (deads 26) [0, 1, 4, 5] (spec_l06Pairs_v0 x)) (spec_l06Pairs_s0 x) = spec_l06Pairs_b0 x (Sum.elim (fun y => some ⟨.norm, spec_l06Pairs_v0 y, spec_l06Pairs_s0 y⟩) fun z => some ⟨(spec_l06Pairs_e0 z).1, (spec_l06Pairs_e0 z).2.1, (spec_l06Pairs_e0 z).2.2⟩) := by
  kernel_rfl

theorem spec_l06Pairs_lo0 : ∀ sp, (spec_l06Pairs_loops 0) = some sp → LoopOk G10 ⟨0, 26, spec_l06Pairs_loops⟩ sp (loopBody Try.f157 0) := by
  intro sp hsp vals st k r h
  cases hsp
  dsimp only at h
  rcases onPats_inv2 h with ⟨p, q, rfl, rfl, h⟩ | h
  · exact loop_runs2 spec_l06Pairs_bp0 spec_l06Pairs_v0 spec_l06Pairs_s0 spec_l06Pairs_e0 (fun z => by rcases z with z | z <;> (intro h; cases h)) spec_l06Pairs_bx0 Fuel (p.1, p.2.1, p.2.2.1, p.2.2.2.1) _ k r (fun z => by rcases z with z | z <;> rfl) h
  cases h

theorem spec_l06Pairs_y (a0 : (List dRange)) (a1 : (List dRange)) : execFn G10 spec_l06Pairs_loops Try.f157 [.lst tRange a0, .lst tRange a1] [] = spec_l06Pairs_k a0 a1 (fun (y : Bool) => some ⟨.ret, [.bool y], []⟩) := by rw [spec_l06Pairs_e]; kernel_rfl

theorem spec_l06Pairs_l : LoopsOk G10 ⟨0, 26, spec_l06Pairs_loops⟩ (Try.f157.body.getD .skip) :=
  loopsOk_of (ids := [0]) (by kernel_rfl) (by kernel_rfl) ⟨spec_l06Pairs_lo0, trivial⟩

theorem spec_l06Pairs_c : Contract Try.prog 157 spec_l06Pairs_g := by
  refine told G10_ok follows Try.func157 (c := Try.f157.body.getD .skip) (by kernel_rfl) ?_
  intro args s k r hk
  unfold spec_l06Pairs_g at hk
  rcases onPats_inv hk with ⟨p, q, rfl, rfl⟩ | hk
  · exact ⟨spec_l06Pairs_loops, spec_l06Pairs_q p.1 p.2.1, spec_l06Pairs_y p.1 p.2.1, spec_l06Pairs_l⟩
  cases hk

def G11 : Glob := G10.add 157 spec_l06Pairs_g

theorem G11_ok : GlobOk Try.prog G11 := G10_ok.add ⟨Try.f157, Try.func157, by kernel_rfl, by kernel_rfl⟩ spec_l06Pairs_c



def spec_SameFrom_loops : Nat → Option LoopSpec
  | 5000011 => some ⟨[0, 1, 2, 6, 7, 8, 9], [], fun vals st k => onPats [.lst tVersion, .lst tVersion, .int .i64, .bool, .bp 0 0, .int .i64, .int .i64] [.box [.str, .str]] vals st (fun p q => spec_SameFrom_j5000011 (p.1, p.2.1, p.2.2.1, p.2.2.2.1, p.2.2.2.2.2.1, p.2.2.2.2.2.2.1, q.1.1, q.1.2.1) (Sum.elim (fun z => k .ret [.lst tVersion z.1, .lst tVersion z.2.1, .int .i64 z.2.2.1, .bool z.2.2.2.1, .bp 0 0, .int .i64 z.2.2.2.2.1, .int .i64 z.2.2.2.2.2.1] [.box [.str z.2.2.2.2.2.2.1, .str z.2.2.2.2.2.2.2]]) (fun z => k .norm [.lst tVersion z.1, .lst tVersion z.2.1, .int .i64 z.2.2.1, .bool z.2.2.2.1, .bp 0 0, .int .i64 z.2.2.2.2.1, .int .i64 z.2.2.2.2.2.1] [.box [.str z.2.2.2.2.2.2.1, .str z.2.2.2.2.2.2.2]])))
      (none)⟩
  | 0 => some ⟨[0, 1, 2, 6, 7, 8], [], fun vals st k => onPats [.lst tVersion, .lst tVersion, .int .i64, .bool, .bp 0 0, .int .i64] [.box [.str, .str]] vals st (fun p q => loopK spec_SameFrom_b0 Fuel (p.1, p.2.1, p.2.2.1, p.2.2.2.1, p.2.2.2.2.2.1, q.1.1, q.1.2.1) (Sum.elim (fun z => k (.exit 0) [.lst tVersion z.1, .lst tVersion z.2.1, .int .i64 z.2.2.1, .bool z.2.2.2.1, .bp 0 0, .int .i64 z.2.2.2.2.1] [.box [.str z.2.2.2.2.2.1, .str z.2.2.2.2.2.2]]) (fun z => k .ret [.lst tVersion z.1, .lst tVersion z.2.1, .int .i64 z.2.2.1, .bool z.2.2.2.1, .bp 0 0, .int .i64 z.2.2.2.2.1] [.box [.str z.2.2.2.2.2.1, .str z.2.2.2.2.2.2]])))
      (none)⟩
  | 2000002 => some ⟨[0, 2, 4, 8, 10, 12, 7, 15, 17, 18], [], fun _ _ _ => none⟩
  | 2000011 => some ⟨[0, 2, 4, 6, 8, 10, 12, 16, 18, 20, 15, 23, 25, 26, 28], [], fun _ _ _ => none⟩
  | _ => none

def spec_SameFrom_jv5000011 : ((List dVersion) × (List dVersion) × Int × Bool × Int × Int × ByteArray × ByteArray) → List AV := (fun x => [.lst tVersion x.1, .lst tVersion x.2.1, .int .i64 x.2.2.1, .bool x.2.2.2.1, .bp 0 0, .int .i64 x.2.2.2.2.1, .int .i64 x.2.2.2.2.2.1])
def spec_SameFrom_js5000011 : ((List dVersion) × (List dVersion) × Int × Bool × Int × Int × ByteArray × ByteArray) → St := (fun x => [.box [.str x.2.2.2.2.2.2.1, .str x.2.2.2.2.2.2.2]])
def spec_SameFrom_je5000011 : (((List dVersion) × (List dVersion) × Int × Bool × Int × Int × ByteArray × ByteArray) ⊕ ((List dVersion) × (List dVersion) × Int × Bool × Int × Int × ByteArray × ByteArray)) → Out × List AV × St := (Sum.elim (fun z => (.ret, [.lst tVersion z.1, .lst tVersion z.2.1, .int .i64 z.2.2.1, .bool z.2.2.2.1, .bp 0 0, .int .i64 z.2.2.2.2.1, .int .i64 z.2.2.2.2.2.1], [.box [.str z.2.2.2.2.2.2.1, .str z.2.2.2.2.2.2.2]])) (fun z => (.norm, [.lst tVersion z.1, .lst tVersion z.2.1, .int .i64 z.2.2.1, .bool z.2.2.2.1, .bp 0 0, .int .i64 z.2.2.2.2.1, .int .i64 z.2.2.2.2.2.1], [.box [.str z.2.2.2.2.2.2.1, .str z.2.2.2.2.2.2.2]])))

theorem spec_SameFrom_jx5000011 (x : ((List dVersion) × (List dVersion) × Int × Bool × Int × Int × ByteArray × ByteArray)) : exec G11 ⟨0, 62, spec_SameFrom_loops⟩ (loopBody Try.f72 5000011) (bodyK ⟨0, 62, spec_SameFrom_loops⟩ [0, 1, 2, 6, 7, 8, 9] []) (setEs (deads 62) [0, 1, 2, 6, 7, 8, 9] (spec_SameFrom_jv5000011 x)) (spec_SameFrom_js5000011 x) = spec_SameFrom_j5000011 x (fun z => some ⟨(spec_SameFrom_je5000011 z).1, (spec_SameFrom_je5000011 z).2.1, (spec_SameFrom_je5000011 z).2.2⟩) := by
  kernel_rfl

theorem spec_SameFrom_lo5000011 : ∀ sp, (spec_SameFrom_loops 5000011) = some sp → CutOk G11 ⟨0, 62, spec_SameFrom_loops⟩ sp (loopBody Try.f72 5000011) := by
  intro sp hsp vals st k r h
  cases hsp
  dsimp only at h
  rcases onPats_inv2 h with ⟨p, q, rfl, rfl, h⟩ | h
  · exact cut_runs spec_SameFrom_jp5000011 spec_SameFrom_jv5000011 spec_SameFrom_js5000011 spec_SameFrom_je5000011 spec_SameFrom_jx5000011 (p.1, p.2.1, p.2.2.1, p.2.2.2.1, p.2.2.2.2.2.1, p.2.2.2.2.2.2.1, q.1.1, q.1.2.1) _ k r (fun z => by rcases z with z | z <;> rfl) h
  cases h

def spec_SameFrom_v0 : ((List dVersion) × (List dVersion) × Int × Bool × Int × ByteArray × ByteArray) → List AV := (fun x => [.lst tVersion x.1, .lst tVersion x.2.1, .int .i64 x.2.2.1, .bool x.2.2.2.1, .bp 0 0, .int .i64 x.2.2.2.2.1])
def spec_SameFrom_s0 : ((List dVersion) × (List dVersion) × Int × Bool × Int × ByteArray × ByteArray) → St := (fun x => [.box [.str x.2.2.2.2.2.1, .str x.2.2.2.2.2.2]])
def spec_SameFrom_e0 : (((List dVersion) × (List dVersion) × Int × Bool × Int × ByteArray × ByteArray) ⊕ ((List dVersion) × (List dVersion) × Int × Bool × Int × ByteArray × ByteArray)) → Out × List AV × St := (Sum.elim (fun z => ((.exit 0), [.lst tVersion z.1, .lst tVersion z.2.1, .int .i64 z.2.2.1, .bool z.2.2.2.1, .bp 0 0, .int .i64 z.2.2.2.2.1], [.box [.str z.2.2.2.2.2.1, .str z.2.2.2.2.2.2]])) (fun z => (.ret, [.lst tVersion z.1, .lst tVersion z.2.1, .int .i64 z.2.2.1, .bool z.2.2.2.1, .bp 0 0, .int .i64 z.2.2.2.2.1], [.box [.str z.2.2.2.2.2.1, .str z.2.2.2.2.2.2]])))

theorem spec_SameFrom_bx0 (x : ((List dVersion) × (List dVersion) × Int × Bool × Int × ByteArray × ByteArray)) : exec G11 ⟨0, 62, spec_SameFrom_loops⟩ (loopBody Try.f72 0) (bodyK ⟨0, 62, spec_SameFrom_loops⟩ [0, 1, 2, 6, 7, 8] []) (setEs (deads 62) [0, 1, 2, 6, 7, 8] (spec_SameFrom_v0 x)) (spec_SameFrom_s0 x) = spec_SameFrom_b0 x (Sum.elim (fun y => some ⟨.norm, spec_SameFrom_v0 y, spec_SameFrom_s0 y⟩) fun z => some ⟨(spec_SameFrom_e0 z).1, (spec_SameFrom_e0 z).2.1, (spec_SameFrom_e0 z).2.2⟩) := by
  kernel_rfl

theorem spec_SameFrom_lo0 : ∀ sp, (spec_SameFrom_loops 0) = some sp → LoopOk G11 ⟨0, 62, spec_SameFrom_loops⟩ sp (loopBody Try.f72 0) := by
  intro sp hsp vals st k r h
  cases hsp
  dsimp only at h
  rcases onPats_inv2 h with ⟨p, q, rfl, rfl, h⟩ | h
  · exact loop_runs2 spec_SameFrom_bp0 spec_SameFrom_v0 spec_SameFrom_s0 spec_SameFrom_e0 (fun z => by rcases z with z | z <;> (intro h; cases h)) spec_SameFrom_bx0 Fuel (p.1, p.2.1, p.2.2.1, p.2.2.2.1, p.2.2.2.2.2.1, q.1.1, q.1.2.1) _ k r (fun z => by rcases z with z | z <;> rfl) h
  cases h

theorem spec_SameFrom_y (a0 : (List dVersion)) (a1 : (List dVersion)) (a2 : Int) : execFn G11 spec_SameFrom_loops Try.f72 [.lst tVersion a0, .lst tVersion a1, .int .i64 a2] [] = spec_SameFrom_k a0 a1 a2 (fun (y : Bool) => some ⟨.ret, [.bool y], []⟩) := by rw [spec_SameFrom_e]; kernel_rfl

theorem spec_SameFrom_l : LoopsOk G11 ⟨0, 62, spec_SameFrom_loops⟩ (Try.f72.body.getD .skip) :=
  loopsOk_of (ids := [5000011, 0]) (by kernel_rfl) (by kernel_rfl) ⟨spec_SameFrom_lo5000011, ⟨spec_SameFrom_lo0, trivial⟩⟩

theorem spec_SameFrom_c : Contract Try.prog 72 spec_SameFrom_g := by
  refine told G11_ok follows Try.func72 (c := Try.f72.body.getD .skip) (by kernel_rfl) ?_
  intro args s k r hk
  unfold spec_SameFrom_g at hk
  rcases onPats_inv hk with ⟨p, q, rfl, rfl⟩ | hk
  · exact ⟨spec_SameFrom_loops, spec_SameFrom_q p.1 p.2.1 p.2.2.1, spec_SameFrom_y p.1 p.2.1 p.2.2.1, spec_SameFrom_l⟩
  cases hk

def G12 : Glob := G11.add 72 spec_SameFrom_g

theorem G12_ok : GlobOk Try.prog G12 := G11_ok.add ⟨Try.f72, Try.func72, by kernel_rfl, by kernel_rfl⟩ spec_SameFrom_c



def slices_Grow_Version_vn_loops : Nat → Option LoopSpec
  | 3000000 => some ⟨[], [some tVersion], fun _ _ _ => none⟩
  | _ => none

theorem slices_Grow_Version_vn_y (a0 : Int) : execFn G12 slices_Grow_Version_vn_loops Try.f202 [.nilS, .int .i64 a0] [] = slices_Grow_Version_vn_k a0 (fun (y : (List dVersion)) => some ⟨.ret, [.own 0], [.arr tVersion y]⟩) := by rw [slices_Grow_Version_vn_e]; kernel_rfl

theorem slices_Grow_Version_vn_l : LoopsOk G12 ⟨0, 27, slices_Grow_Version_vn_loops⟩ (Try.f202.body.getD .skip) :=
  loopsOk_of (ids := []) (by kernel_rfl) (by kernel_rfl) trivial

theorem slices_Grow_Version_c : Contract Try.prog 202 slices_Grow_Version_g := by
  refine told G12_ok follows Try.func202 (c := Try.f202.body.getD .skip) (by kernel_rfl) ?_
  intro args s k r hk
  unfold slices_Grow_Version_g at hk
  rcases onPats_inv hk with ⟨p, q, rfl, rfl⟩ | hk
  · exact ⟨slices_Grow_Version_vn_loops, slices_Grow_Version_vn_q p.2.1, slices_Grow_Version_vn_y p.2.1, slices_Grow_Version_vn_l⟩
  cases hk

def G13 : Glob := G12.add 202 slices_Grow_Version_g

theorem G13_ok : GlobOk Try.prog G13 := G12_ok.add ⟨Try.f202, Try.func202, by kernel_rfl, by kernel_rfl⟩ slices_Grow_Version_c



def slices_Concat_Version_loops : Nat → Option LoopSpec
  | 0 => some ⟨[0, 3, 9, 10, 11], [], fun vals st k => onPats [.lst (.slice tVersion), .int .i64, .lst (.slice tVersion), .int .i64, .int .i64] [] vals st (fun p q => loopK slices_Concat_Version_b0 Fuel (p.1, p.2.1, p.2.2.1, p.2.2.2.1, p.2.2.2.2.1) (fun z => k (.exit 0) [.lst (.slice tVersion) z.1, .int .i64 z.2.1, .lst (.slice tVersion) z.2.2.1, .int .i64 z.2.2.2.1, .int .i64 z.2.2.2.2] []))
      (none)⟩
  | 2 => some ⟨[6, 25, 26, 27], [], fun vals st k => onPats [.own 0, .lst (.slice tVersion), .int .i64, .int .i64] [.arr tVersion] vals st (fun p q => loopK slices_Concat_Version_b2 Fuel (p.2.1, p.2.2.1, p.2.2.2.1, q.1) (fun z => k (.exit 2) [.own 0, .lst (.slice tVersion) z.1, .int .i64 z.2.1, .int .i64 z.2.2.1] [.arr tVersion z.2.2.2]))
      (none)⟩
  | _ => none

def slices_Concat_Version_v0 : ((List (List dVersion)) × Int × (List (List dVersion)) × Int × Int) → List AV := (fun x => [.lst (.slice tVersion) x.1, .int .i64 x.2.1, .lst (.slice tVersion) x.2.2.1, .int .i64 x.2.2.2.1, .int .i64 x.2.2.2.2])
def slices_Concat_Version_s0 : ((List (List dVersion)) × Int × (List (List dVersion)) × Int × Int) → St := (fun x => [])
def slices_Concat_Version_e0 : ((List (List dVersion)) × Int × (List (List dVersion)) × Int × Int) → Out × List AV × St := (fun z => ((.exit 0), [.lst (.slice tVersion) z.1, .int .i64 z.2.1, .lst (.slice tVersion) z.2.2.1, .int .i64 z.2.2.2.1, .int .i64 z.2.2.2.2], []))

theorem slices_Concat_Version_bx0 (x : ((List (List dVersion)) × Int × (List (List dVersion)) × Int × Int)) : exec G13 ⟨0, 36, slices_Concat_Version_loops⟩ (loopBody Try.f161 0) (bodyK ⟨0, 36, slices_Concat_Version_loops⟩ [0, 3, 9, 10, 11] []) (setEs (deads 36) [0, 3, 9, 10, 11] (slices_Concat_Version_v0 x)) (slices_Concat_Version_s0 x) = slices_Concat_Version_b0 x (Sum.elim (fun y => some ⟨.norm, slices_Concat_Version_v0 y, slices_Concat_Version_s0 y⟩) fun z => some ⟨(slices_Concat_Version_e0 z).1, (slices_Concat_Version_e0 z).2.1, (slices_Concat_Version_e0 z).2.2⟩) := by
  kernel_rfl

theorem slices_Concat_Version_lo0 : ∀ sp, (slices_Concat_Version_loops 0) = some sp → LoopOk G13 ⟨0, 36, slices_Concat_Version_loops⟩ sp (loopBody Try.f161 0) := by
  intro sp hsp vals st k r h
  cases hsp
  dsimp only at h
  rcases onPats_inv2 h with ⟨p, q, rfl, rfl, h⟩ | h
  · exact loop_runs2 slices_Concat_Version_bp0 slices_Concat_Version_v0 slices_Concat_Version_s0 slices_Concat_Version_e0 (fun z => by (intro h; cases h)) slices_Concat_Version_bx0 Fuel (p.1, p.2.1, p.2.2.1, p.2.2.2.1, p.2.2.2.2.1) _ k r (fun z => rfl) h
  cases h

def slices_Concat_Version_v2 : ((List (List dVersion)) × Int × Int × (List dVersion)) → List AV := (fun x => [.own 0, .lst (.slice tVersion) x.1, .int .i64 x.2.1, .int .i64 x.2.2.1])
def slices_Concat_Version_s2 : ((List (List dVersion)) × Int × Int × (List dVersion)) → St := (fun x => [.arr tVersion x.2.2.2])
def slices_Concat_Version_e2 : ((List (List dVersion)) × Int × Int × (List dVersion)) → Out × List AV × St := (fun z => ((.exit 2), [.own 0, .lst (.slice tVersion) z.1, .int .i64 z.2.1, .int .i64 z.2.2.1], [.arr tVersion z.2.2.2]))

theorem slices_Concat_Version_bx2 (x : ((List (List dVersion)) × Int × Int × (List dVersion))) : exec G13 ⟨0, 36, slices_Concat_Version_loops⟩ (loopBody Try.f161 2) (bodyK ⟨0, 36, slices_Concat_Version_loops⟩ [6, 25, 26, 27] []) (setEs (deads 36) [6, 25, 26, 27] (slices_Concat_Version_v2 x)) (slices_Concat_Version_s2 x) = slices_Concat_Version_b2 x (Sum.elim (fun y => some ⟨.norm, slices_Concat_Version_v2 y, slices_Concat_Version_s2 y⟩) fun z => some ⟨(slices_Concat_Version_e2 z).1, (slices_Concat_Version_e2 z).2.1, (slices_Concat_Version_e2 z).2.2⟩) := by
  kernel_rfl

theorem slices_Concat_Version_lo2 : ∀ sp, (slices_Concat_Version_loops 2) = some sp → LoopOk G13 ⟨0, 36, slices_Concat_Version_loops⟩ sp (loopBody Try.f161 2) := by
  intro sp hsp vals st k r h
  cases hsp
  dsimp only at h
  rcases onPats_inv2 h with ⟨p, q, rfl, rfl, h⟩ | h
  · exact loop_runs2 slices_Concat_Version_bp2 slices_Concat_Version_v2 slices_Concat_Version_s2 slices_Concat_Version_e2 (fun z => by (intro h; cases h)) slices_Concat_Version_bx2 Fuel (p.2.1, p.2.2.1, p.2.2.2.1, q.1) _ k r (fun z => rfl) h
  cases h

theorem slices_Concat_Version_y (a0 : (List (List dVersion))) : execFn G13 slices_Concat_Version_loops Try.f161 [.lst (.slice tVersion) a0] [] = slices_Concat_Version_k a0 (fun (y : (List dVersion)) => some ⟨.ret, [.own 0], [.arr tVersion y]⟩) := by rw [slices_Concat_Version_e]; kernel_rfl

theorem slices_Concat_Version_l : LoopsOk G13 ⟨0, 36, slices_Concat_Version_loops⟩ (Try.f161.body.getD .skip) :=
  loopsOk_of (ids := [0, 2]) (by kernel_rfl) (by kernel_rfl) ⟨slices_Concat_Version_lo0, ⟨slices_Concat_Version_lo2, trivial⟩⟩

theorem slices_Concat_Version_c : Contract Try.prog 161 slices_Concat_Version_g := by
  refine told G13_ok follows Try.func161 (c := Try.f161.body.getD .skip) (by kernel_rfl) ?_
  intro args s k r hk
  unfold slices_Concat_Version_g at hk
  rcases onPats_inv hk with ⟨p, q, rfl, rfl⟩ | hk
  · exact ⟨slices_Concat_Version_loops, slices_Concat_Version_q p.1, slices_Concat_Version_y p.1, slices_Concat_Version_l⟩
  cases hk

def G14 : Glob := G13.add 161 slices_Concat_Version_g

theorem G14_ok : GlobOk Try.prog G14 := G13_ok.add ⟨Try.f161, Try.func161, by kernel_rfl, by kernel_rfl⟩ slices_Concat_Version_c



def impl_allKeys_loops : Nat → Option LoopSpec
  | _ => none

theorem impl_allKeys_y  : execFn G14 impl_allKeys_loops Try.f160 [] [] = impl_allKeys_k  (fun (y : (ByteArray × ByteArray)) => some ⟨.ret, [.agg [.str y.1, .str y.2]], []⟩) := by rw [impl_allKeys_e]; kernel_rfl

theorem impl_allKeys_l : LoopsOk G14 ⟨0, 2, impl_allKeys_loops⟩ (Try.f160.body.getD .skip) :=
  loopsOk_of (ids := []) (by kernel_rfl) (by kernel_rfl) trivial

theorem impl_allKeys_c : Contract Try.prog 160 impl_allKeys_g := by
  refine told G14_ok follows Try.func160 (c := Try.f160.body.getD .skip) (by kernel_rfl) ?_
  intro args s k r hk
  unfold impl_allKeys_g at hk
  rcases onPats_inv hk with ⟨p, q, rfl, rfl⟩ | hk
  · exact ⟨impl_allKeys_loops, impl_allKeys_q , impl_allKeys_y , impl_allKeys_l⟩
  cases hk

def G15 : Glob := G14.add 160 impl_allKeys_g

theorem G15_ok : GlobOk Try.prog G15 := G14_ok.add ⟨Try.f160, Try.func160, by kernel_rfl, by kernel_rfl⟩ impl_allKeys_c



theorem slices_Sort_string_c : Contract Try.prog 205 slices_Sort_string_g := by
  intro args s k r hk
  unfold slices_Sort_string_g at hk
  rw [slices_Sort_string_vo_e] at hk
  unfold slices_Sort_string_vo_d at hk
  have e : Try.laysSort_ren.f 190 = 205 := by kernel_rfl
  exact e ▸ sort_contract Try.laysSort args s k r hk

def G16 : Glob := G15.add 205 slices_Sort_string_g

theorem G16_ok : GlobOk Try.prog G16 := G15_ok.add ⟨Try.f205, Try.func205, by kernel_rfl, by kernel_rfl⟩ slices_Sort_string_c



def slices_Compact_string_vo_loops : Nat → Option LoopSpec
  | 2 => some ⟨[0, 3, 4, 5], [], fun vals st k => onPats [.own 0, .int .i64, .win 0, .int .i64] [.arr .str] vals st (fun p q => loopK slices_Compact_string_vo_b2 Fuel (p.2.1, p.2.2.1, p.2.2.2.1, q.1) (fun z => k (.exit 2) [.own 0, .int .i64 z.1, .win 0 z.2.1, .int .i64 z.2.2.1] [.arr .str z.2.2.2]))
      (none)⟩
  | 0 => some ⟨[0, 2, 3], [none, some .str], fun vals st k => onPats [.own 0, .own 1, .int .i64] [.arr .str, .arr .str] vals st (fun p q => loopK slices_Compact_string_vo_b0 Fuel (p.2.2.1, q.1, q.2.1) (Sum.elim (fun z => k (.exit 0) [.own 0, .own 1, .int .i64 z.1] [.arr .str z.2.1, .arr .str z.2.2]) (fun z => k .ret [.own 0, .own 1, .int .i64 z.1] [.gone, .arr .str z.2])))
      (none)⟩
  | 2000006 => some ⟨[0, 2, 4, 6, 8, 10, 12, 14, 16, 18], [], fun _ _ _ => none⟩
  | 2000011 => some ⟨[0, 2, 4, 6, 8, 10, 12, 14, 16, 18], [], fun _ _ _ => none⟩
  | _ => none

def slices_Compact_string_vo_v2 : (Int × Nat × Int × (List ByteArray)) → List AV := (fun x => [.own 0, .int .i64 x.1, .win 0 x.2.1, .int .i64 x.2.2.1])
def slices_Compact_string_vo_s2 : (Int × Nat × Int × (List ByteArray)) → St := (fun x => [.arr .str x.2.2.2])
def slices_Compact_string_vo_e2 : (Int × Nat × Int × (List ByteArray)) → Out × List AV × St := (fun z => ((.exit 2), [.own 0, .int .i64 z.1, .win 0 z.2.1, .int .i64 z.2.2.1], [.arr .str z.2.2.2]))

theorem slices_Compact_string_vo_bx2 (x : (Int × Nat × Int × (List ByteArray))) : exec G16 ⟨1, 61, slices_Compact_string_vo_loops⟩ (loopBody Try.f206 2) (bodyK ⟨1, 61, slices_Compact_string_vo_loops⟩ [0, 3, 4, 5] []) (setEs (deads 61) [0, 3, 4, 5] (slices_Compact_string_vo_v2 x)) (slices_Compact_string_vo_s2 x) = slices_Compact_string_vo_b2 x (Sum.elim (fun y => some ⟨.norm, slices_Compact_string_vo_v2 y, slices_Compact_string_vo_s2 y⟩) fun z => some ⟨(slices_Compact_string_vo_e2 z).1, (slices_Compact_string_vo_e2 z).2.1, (slices_Compact_string_vo_e2 z).2.2⟩) := by
  kernel_rfl

theorem slices_Compact_string_vo_lo2 : ∀ sp, (slices_Compact_string_vo_loops 2) = some sp → LoopOk G16 ⟨1, 61, slices_Compact_string_vo_loops⟩ sp (loopBody Try.f206 2) := by
  intro sp hsp vals st k r h
  cases hsp
  dsimp only at h
  rcases onPats_inv2 h with ⟨p, q, rfl, rfl, h⟩ | h
  · exact loop_runs2 slices_Compact_string_vo_bp2 slices_Compact_string_vo_v2 slices_Compact_string_vo_s2 slices_Compact_string_vo_e2 (fun z => by (intro h; cases h)) slices_Compact_string_vo_bx2 Fuel (p.2.1, p.2.2.1, p.2.2.2.1, q.1) _ k r (fun z => rfl) h
  cases h

def slices_Compact_string_vo_v0 : (Int × (List ByteArray) × (List ByteArray)) → List AV := (fun x => [.own 0, .own 1, .int .i64 x.1])
def slices_Compact_string_vo_s0 : (Int × (List ByteArray) × (List ByteArray)) → St := (fun x => [.arr .str x.2.1, .arr .str x.2.2])
def slices_Compact_string_vo_e0 : ((Int × (List ByteArray) × (List ByteArray)) ⊕ (Int × (List ByteArray))) → Out × List AV × St := (Sum.elim (fun z => ((.exit 0), [.own 0, .own 1, .int .i64 z.1], [.arr .str z.2.1, .arr .str z.2.2])) (fun z => (.ret, [.own 0, .own 1, .int .i64 z.1], [.gone, .arr .str z.2])))

theorem slices_Compact_string_vo_bx0 (x : (Int × (List ByteArray) × (List ByteArray))) : exec G16 ⟨1, 61, slices_Compact_string_vo_loops⟩ (loopBody Try.f206 0) (bodyK ⟨1, 61, slices_Compact_string_vo_loops⟩ [0, 2, 3] [none, some .str]) (setEs (deads 61) [0, 2, 3] (slices_Compact_string_vo_v0 x)) (slices_Compact_string_vo_s0 x) = slices_Compact_string_vo_b0 x (Sum.elim (fun y => some ⟨.norm, slices_Compact_string_vo_v0 y, slices_Compact_string_vo_s0 y⟩) fun z => some ⟨(slices_Compact_string_vo_e0 z).1, (slices_Compact_string_vo_e0 z).2.1, (slices_Compact_string_vo_e0 z).2.2⟩) := by
  kernel_rfl

theorem slices_Compact_string_vo_lo0 : ∀ sp, (slices_Compact_string_vo_loops 0) = some sp → LoopOk G16 ⟨1, 61, slices_Compact_string_vo_loops⟩ sp (loopBody Try.f206 0) := by
  intro sp hsp vals st k r h
  cases hsp
  dsimp only at h
  rcases onPats_inv2 h with ⟨p, q, rfl, rfl, h⟩ | h
  · exact loop_runs2 slices_Compact_string_vo_bp0 slices_Compact_string_vo_v0 slices_Compact_string_vo_s0 slices_Compact_string_vo_e0 (fun z => by rcases z with z | z <;> (intro h; cases h)) slices_Compact_string_vo_bx0 Fuel (p.2.2.1, q.1, q.2.1) _ k r (fun z => by rcases z with z | z <;> rfl) h
  cases h

theorem slices_Compact_string_vo_y (a0 : (List ByteArray)) : execFn G16 slices_Compact_string_vo_loops Try.f206 [.own 0] [.arr .str a0] = slices_Compact_string_vo_k a0 (Sum.elim (fun (y : (List ByteArray)) => some ⟨.ret, [.own 0], [.arr .str y]⟩) (fun (y : (List ByteArray)) => some ⟨.ret, [.own 1], [.gone, .arr .str y]⟩)) := by rw [slices_Compact_string_vo_e]; kernel_rfl

theorem slices_Compact_string_vo_l : LoopsOk G16 ⟨1, 61, slices_Compact_string_vo_loops⟩ (Try.f206.body.getD .skip) :=
  loopsOk_of (ids := [2, 0]) (by kernel_rfl) (by kernel_rfl) ⟨slices_Compact_string_vo_lo2, ⟨slices_Compact_string_vo_lo0, trivial⟩⟩

theorem slices_Compact_string_c : Contract Try.prog 206 slices_Compact_string_g := by
  refine told G16_ok follows Try.func206 (c := Try.f206.body.getD .skip) (by kernel_rfl) ?_
  intro args s k r hk
  unfold slices_Compact_string_g at hk
  rcases onPats_inv hk with ⟨p, q, rfl, rfl⟩ | hk
  · exact ⟨slices_Compact_string_vo_loops, slices_Compact_string_vo_q q.1, slices_Compact_string_vo_y q.1, slices_Compact_string_vo_l⟩
  cases hk

def G17 : Glob := G16.add 206 slices_Compact_string_g

theorem G17_ok : GlobOk Try.prog G17 := G16_ok.add ⟨Try.f206, Try.func206, by kernel_rfl, by kernel_rfl⟩ slices_Compact_string_c



def impl_keysOf_loops : Nat → Option LoopSpec
  | 0 => some ⟨[3, 6, 7, 8], [some .str], fun vals st k => onPats [.own 0, .lst tVersion, .int .i64, .int .i64] [.arr .str] vals st (fun p q => loopK impl_keysOf_b0 Fuel (p.2.1, p.2.2.1, p.2.2.2.1, q.1) (fun z => k (.exit 0) [.own 0, .lst tVersion z.1, .int .i64 z.2.1, .int .i64 z.2.2.1] [.arr .str z.2.2.2]))
      (none)⟩
  | _ => none

def impl_keysOf_v0 : ((List dVersion) × Int × Int × (List ByteArray)) → List AV := (fun x => [.own 0, .lst tVersion x.1, .int .i64 x.2.1, .int .i64 x.2.2.1])
def impl_keysOf_s0 : ((List dVersion) × Int × Int × (List ByteArray)) → St := (fun x => [.arr .str x.2.2.2])
def impl_keysOf_e0 : ((List dVersion) × Int × Int × (List ByteArray)) → Out × List AV × St := (fun z => ((.exit 0), [.own 0, .lst tVersion z.1, .int .i64 z.2.1, .int .i64 z.2.2.1], [.arr .str z.2.2.2]))

theorem impl_keysOf_bx0 (x : ((List dVersion) × Int × Int × (List ByteArray))) : exec G17 ⟨0, 22, impl_keysOf_loops⟩ (loopBody Try.f164 0) (bodyK ⟨0, 22, impl_keysOf_loops⟩ [3, 6, 7, 8] [some .str]) (setEs (deads 22) [3, 6, 7, 8] (impl_keysOf_v0 x)) (impl_keysOf_s0 x) = impl_keysOf_b0 x (Sum.elim (fun y => some ⟨.norm, impl_keysOf_v0 y, impl_keysOf_s0 y⟩) fun z => some ⟨(impl_keysOf_e0 z).1, (impl_keysOf_e0 z).2.1, (impl_keysOf_e0 z).2.2⟩) := by
  kernel_rfl

theorem impl_keysOf_lo0 : ∀ sp, (impl_keysOf_loops 0) = some sp → LoopOk G17 ⟨0, 22, impl_keysOf_loops⟩ sp (loopBody Try.f164 0) := by
  intro sp hsp vals st k r h
  cases hsp
  dsimp only at h
  rcases onPats_inv2 h with ⟨p, q, rfl, rfl, h⟩ | h
  · exact loop_runs2 impl_keysOf_bp0 impl_keysOf_v0 impl_keysOf_s0 impl_keysOf_e0 (fun z => by (intro h; cases h)) impl_keysOf_bx0 Fuel (p.2.1, p.2.2.1, p.2.2.2.1, q.1) _ k r (fun z => rfl) h
  cases h

theorem impl_keysOf_y (a0 : (List dVersion)) : execFn G17 impl_keysOf_loops Try.f164 [.lst tVersion a0] [] = impl_keysOf_k a0 (fun (y : (List ByteArray)) => some ⟨.ret, [.own 0], [.arr .str y]⟩) := by rw [impl_keysOf_e]; kernel_rfl

theorem impl_keysOf_l : LoopsOk G17 ⟨0, 22, impl_keysOf_loops⟩ (Try.f164.body.getD .skip) :=
  loopsOk_of (ids := [0]) (by kernel_rfl) (by kernel_rfl) ⟨impl_keysOf_lo0, trivial⟩

theorem impl_keysOf_c : Contract Try.prog 164 impl_keysOf_g := by
  refine told G17_ok follows Try.func164 (c := Try.f164.body.getD .skip) (by kernel_rfl) ?_
  intro args s k r hk
  unfold impl_keysOf_g at hk
  rcases onPats_inv hk with ⟨p, q, rfl, rfl⟩ | hk
  · exact ⟨impl_keysOf_loops, impl_keysOf_q p.1, impl_keysOf_y p.1, impl_keysOf_l⟩
  cases hk

def G18 : Glob := G17.add 164 impl_keysOf_g

theorem G18_ok : GlobOk Try.prog G18 := G17_ok.add ⟨Try.f164, Try.func164, by kernel_rfl, by kernel_rfl⟩ impl_keysOf_c



def impl_lastAt_loops : Nat → Option LoopSpec
  | 0 => some ⟨[0, 1, 2, 7, 10, 11, 12], [], fun vals st k => onPats [.lst tVersion, .str, .int .i64, .int .i64, .lst tVersion, .int .i64, .int .i64] [] vals st (fun p q => loopK impl_lastAt_b0 Fuel (p.1, p.2.1, p.2.2.1, p.2.2.2.1, p.2.2.2.2.1, p.2.2.2.2.2.1, p.2.2.2.2.2.2.1) (fun z => k (.exit 0) [.lst tVersion z.1, .str z.2.1, .int .i64 z.2.2.1, .int .i64 z.2.2.2.1, .lst tVersion z.2.2.2.2.1, .int .i64 z.2.2.2.2.2.1, .int .i64 z.2.2.2.2.2.2] []))
      (none)⟩
  | 2000005 => some ⟨[0, 2, 4, 6, 8, 10, 12, 14, 16, 18, 20, 22, 24, 26, 28, 30, 32, 34, 36, 38, 40, 42, 44, 46], [], fun _ _ _ => none⟩
  | _ => none

def impl_lastAt_v0 : ((List dVersion) × ByteArray × Int × Int × (List dVersion) × Int × Int) → List AV := (fun x => [.lst tVersion x.1, .str x.2.1, .int .i64 x.2.2.1, .int .i64 x.2.2.2.1, .lst tVersion x.2.2.2.2.1, .int .i64 x.2.2.2.2.2.1, .int .i64 x.2.2.2.2.2.2])
def impl_lastAt_s0 : ((List dVersion) × ByteArray × Int × Int × (List dVersion) × Int × Int) → St := (fun x => [])
def impl_lastAt_e0 : ((List dVersion) × ByteArray × Int × Int × (List dVersion) × Int × Int) → Out × List AV × St := (fun z => ((.exit 0), [.lst tVersion z.1, .str z.2.1, .int .i64 z.2.2.1, .int .i64 z.2.2.2.1, .lst tVersion z.2.2.2.2.1, .int .i64 z.2.2.2.2.2.1, .int .i64 z.2.2.2.2.2.2], []))

theorem impl_lastAt_bx0 (x : ((List dVersion) × ByteArray × Int × Int × (List dVersion) × Int × Int)) : exec G18 ⟨0, 44, impl_lastAt_loops⟩ (loopBody Try.f207 0) (bodyK ⟨0, 44, impl_lastAt_loops⟩ [0, 1, 2, 7, 10, 11, 12] []) (setEs (deads 44) [0, 1, 2, 7, 10, 11, 12] (impl_lastAt_v0 x)) (impl_lastAt_s0 x) = impl_lastAt_b0 x (Sum.elim (fun y => some ⟨.norm, impl_lastAt_v0 y, impl_lastAt_s0 y⟩) fun z => some ⟨(impl_lastAt_e0 z).1, (impl_lastAt_e0 z).2.1, (impl_lastAt_e0 z).2.2⟩) := by
  kernel_rfl

theorem impl_lastAt_lo0 : ∀ sp, (impl_lastAt_loops 0) = some sp → LoopOk G18 ⟨0, 44, impl_lastAt_loops⟩ sp (loopBody Try.f207 0) := by
  intro sp hsp vals st k r h
  cases hsp
  dsimp only at h
  rcases onPats_inv2 h with ⟨p, q, rfl, rfl, h⟩ | h
  · exact loop_runs2 impl_lastAt_bp0 impl_lastAt_v0 impl_lastAt_s0 impl_lastAt_e0 (fun z => by (intro h; cases h)) impl_lastAt_bx0 Fuel (p.1, p.2.1, p.2.2.1, p.2.2.2.1, p.2.2.2.2.1, p.2.2.2.2.2.1, p.2.2.2.2.2.2.1) _ k r (fun z => rfl) h
  cases h

theorem impl_lastAt_y (a0 : (List dVersion)) (a1 : ByteArray) (a2 : Int) : execFn G18 impl_lastAt_loops Try.f207 [.lst tVersion a0, .str a1, .int .i64 a2] [] = impl_lastAt_k a0 a1 a2 (fun (y : Int) => some ⟨.ret, [.int .i64 y], []⟩) := by rw [impl_lastAt_e]; kernel_rfl

theorem impl_lastAt_l : LoopsOk G18 ⟨0, 44, impl_lastAt_loops⟩ (Try.f207.body.getD .skip) :=
  loopsOk_of (ids := [0]) (by kernel_rfl) (by kernel_rfl) ⟨impl_lastAt_lo0, trivial⟩

theorem impl_lastAt_c : Contract Try.prog 207 impl_lastAt_g := by
  refine told G18_ok follows Try.func207 (c := Try.f207.body.getD .skip) (by kernel_rfl) ?_
  intro args s k r hk
  unfold impl_lastAt_g at hk
  rcases onPats_inv hk with ⟨p, q, rfl, rfl⟩ | hk
  · exact ⟨impl_lastAt_loops, impl_lastAt_q p.1 p.2.1 p.2.2.1, impl_lastAt_y p.1 p.2.1 p.2.2.1, impl_lastAt_l⟩
  cases hk

def G19 : Glob := G18.add 207 impl_lastAt_g

theorem G19_ok : GlobOk Try.prog G19 := G18_ok.add ⟨Try.f207, Try.func207, by kernel_rfl, by kernel_rfl⟩ impl_lastAt_c



def impl_SeenAt_loops : Nat → Option LoopSpec
  | _ => none

theorem impl_SeenAt_y (a0 : (List dVersion)) (a1 : ByteArray) (a2 : Int) : execFn G19 impl_SeenAt_loops Try.f165 [.lst tVersion a0, .str a1, .int .i64 a2] [] = impl_SeenAt_k a0 a1 a2 (fun (y : (ByteArray × Bool)) => some ⟨.ret, [.tup [.str y.1, .bool y.2]], []⟩) := by rw [impl_SeenAt_e]; kernel_rfl

theorem impl_SeenAt_l : LoopsOk G19 ⟨0, 27, impl_SeenAt_loops⟩ (Try.f165.body.getD .skip) :=
  loopsOk_of (ids := []) (by kernel_rfl) (by kernel_rfl) trivial

theorem impl_SeenAt_c : Contract Try.prog 165 impl_SeenAt_g := by
  refine told G19_ok follows Try.func165 (c := Try.f165.body.getD .skip) (by kernel_rfl) ?_
  intro args s k r hk
  unfold impl_SeenAt_g at hk
  rcases onPats_inv hk with ⟨p, q, rfl, rfl⟩ | hk
  · exact ⟨impl_SeenAt_loops, impl_SeenAt_q p.1 p.2.1 p.2.2.1, impl_SeenAt_y p.1 p.2.1 p.2.2.1, impl_SeenAt_l⟩
  cases hk

def G20 : Glob := G19.add 165 impl_SeenAt_g

theorem G20_ok : GlobOk Try.prog G20 := G19_ok.add ⟨Try.f165, Try.func165, by kernel_rfl, by kernel_rfl⟩ impl_SeenAt_c



def impl_InRange_loops : Nat → Option LoopSpec
  | _ => none

theorem impl_InRange_y (a0 : ByteArray) (a1 : ByteArray) (a2 : ByteArray) : execFn G20 impl_InRange_loops Try.f166 [.agg [.str a0, .str a1], .str a2] [] = impl_InRange_k (a0, a1) a2 (fun (y : Bool) => some ⟨.ret, [.bool y], []⟩) := by rw [impl_InRange_e]; kernel_rfl

theorem impl_InRange_l : LoopsOk G20 ⟨0, 15, impl_InRange_loops⟩ (Try.f166.body.getD .skip) :=
  loopsOk_of (ids := []) (by kernel_rfl) (by kernel_rfl) trivial

theorem impl_InRange_c : Contract Try.prog 166 impl_InRange_g := by
  refine told G20_ok follows Try.func166 (c := Try.f166.body.getD .skip) (by kernel_rfl) ?_
  intro args s k r hk
  unfold impl_InRange_g at hk
  rcases onPats_inv hk with ⟨p, q, rfl, rfl⟩ | hk
  · exact ⟨impl_InRange_loops, impl_InRange_q p.1.1 p.1.2.1 p.2.1, impl_InRange_y p.1.1 p.1.2.1 p.2.1, impl_InRange_l⟩
  cases hk

def G21 : Glob := G20.add 166 impl_InRange_g

theorem G21_ok : GlobOk Try.prog G21 := G20_ok.add ⟨Try.f166, Try.func166, by kernel_rfl, by kernel_rfl⟩ impl_InRange_c



def impl_ScanAt_loops : Nat → Option LoopSpec
  | 0 => some ⟨[0, 2, 4, 7, 13, 14, 15], [none, none, none, some tRange], fun vals st k => onPats [.lst tVersion, .int .i64, .bp 0 0, .own 1, .own 2, .int .i64, .int .i64] [.box [.str, .str], .arr tRange, .arr .str] vals st (fun p q => loopK impl_ScanAt_b0 Fuel (p.1, p.2.1, p.2.2.2.2.2.1, p.2.2.2.2.2.2.1, q.1.1, q.1.2.1, q.2.1, q.2.2.1) (fun z => k (.exit 0) [.lst tVersion z.1, .int .i64 z.2.1, .bp 0 0, .own 1, .own 2, .int .i64 z.2.2.1, .int .i64 z.2.2.2.1] [.box [.str z.2.2.2.2.1, .str z.2.2.2.2.2.1], .arr tRange z.2.2.2.2.2.2.1, .arr .str z.2.2.2.2.2.2.2]))
      (none)⟩
  | _ => none

def impl_ScanAt_v0 : ((List dVersion) × Int × Int × Int × ByteArray × ByteArray × (List dRange) × (List ByteArray)) → List AV := (fun x => [.lst tVersion x.1, .int .i64 x.2.1, .bp 0 0, .own 1, .own 2, .int .i64 x.2.2.1, .int .i64 x.2.2.2.1])
def impl_ScanAt_s0 : ((List dVersion) × Int × Int × Int × ByteArray × ByteArray × (List dRange) × (List ByteArray)) → St := (fun x => [.box [.str x.2.2.2.2.1, .str x.2.2.2.2.2.1], .arr tRange x.2.2.2.2.2.2.1, .arr .str x.2.2.2.2.2.2.2])
def impl_ScanAt_e0 : ((List dVersion) × Int × Int × Int × ByteArray × ByteArray × (List dRange) × (List ByteArray)) → Out × List AV × St := (fun z => ((.exit 0), [.lst tVersion z.1, .int .i64 z.2.1, .bp 0 0, .own 1, .own 2, .int .i64 z.2.2.1, .int .i64 z.2.2.2.1], [.box [.str z.2.2.2.2.1, .str z.2.2.2.2.2.1], .arr tRange z.2.2.2.2.2.2.1, .arr .str z.2.2.2.2.2.2.2]))

theorem impl_ScanAt_bx0 (x : ((List dVersion) × Int × Int × Int × ByteArray × ByteArray × (List dRange) × (List ByteArray))) : exec G21 ⟨0, 40, impl_ScanAt_loops⟩ (loopBody Try.f75 0) (bodyK ⟨0, 40, impl_ScanAt_loops⟩ [0, 2, 4, 7, 13, 14, 15] [none, none, none, some tRange]) (setEs (deads 40) [0, 2, 4, 7, 13, 14, 15] (impl_ScanAt_v0 x)) (impl_ScanAt_s0 x) = impl_ScanAt_b0 x (Sum.elim (fun y => some ⟨.norm, impl_ScanAt_v0 y, impl_ScanAt_s0 y⟩) fun z => some ⟨(impl_ScanAt_e0 z).1, (impl_ScanAt_e0 z).2.1, (impl_ScanAt_e0 z).2.2⟩) := by
  kernel_rfl

theorem impl_ScanAt_lo0 : ∀ sp, (impl_ScanAt_loops 0) = some sp → LoopOk G21 ⟨0, 40, impl_ScanAt_loops⟩ sp (loopBody Try.f75 0) := by
  intro sp hsp vals st k r h
  cases hsp
  dsimp only at h
  rcases onPats_inv2 h with ⟨p, q, rfl, rfl, h⟩ | h
  · exact loop_runs2 impl_ScanAt_bp0 impl_ScanAt_v0 impl_ScanAt_s0 impl_ScanAt_e0 (fun z => by (intro h; cases h)) impl_ScanAt_bx0 Fuel (p.1, p.2.1, p.2.2.2.2.2.1, p.2.2.2.2.2.2.1, q.1.1, q.1.2.1, q.2.1, q.2.2.1) _ k r (fun z => rfl) h
  cases h

theorem impl_ScanAt_y (a0 : (List dVersion)) (a1 : ByteArray) (a2 : ByteArray) (a3 : Int) : execFn G21 impl_ScanAt_loops Try.f75 [.lst tVersion a0, .agg [.str a1, .str a2], .int .i64 a3] [] = impl_ScanAt_k a0 (a1, a2) a3 (fun (y : (List dRange)) => some ⟨.ret, [.own 0], [.arr tRange y]⟩) := by rw [impl_ScanAt_e]; kernel_rfl

theorem impl_ScanAt_l : LoopsOk G21 ⟨0, 40, impl_ScanAt_loops⟩ (Try.f75.body.getD .skip) :=
  loopsOk_of (ids := [0]) (by kernel_rfl) (by kernel_rfl) ⟨impl_ScanAt_lo0, trivial⟩

theorem impl_ScanAt_c : Contract Try.prog 75 impl_ScanAt_g := by
  refine told G21_ok follows Try.func75 (c := Try.f75.body.getD .skip) (by kernel_rfl) ?_
  intro args s k r hk
  unfold impl_ScanAt_g at hk
  rcases onPats_inv hk with ⟨p, q, rfl, rfl⟩ | hk
  · exact ⟨impl_ScanAt_loops, impl_ScanAt_q p.1 p.2.1.1 p.2.1.2.1 p.2.2.1, impl_ScanAt_y p.1 p.2.1.1 p.2.1.2.1 p.2.2.1, impl_ScanAt_l⟩
  cases hk

def G22 : Glob := G21.add 75 impl_ScanAt_g

theorem G22_ok : GlobOk Try.prog G22 := G21_ok.add ⟨Try.f75, Try.func75, by kernel_rfl, by kernel_rfl⟩ impl_ScanAt_c



def slices_Equal_Pair_loops : Nat → Option LoopSpec
  | 0 => some ⟨[0, 1, 4, 12, 13], [], fun vals st k => onPats [.lst tRange, .lst tRange, .bool, .int .i64, .int .i64] [] vals st (fun p q => loopK slices_Equal_Pair_b0 Fuel (p.1, p.2.1, p.2.2.1, p.2.2.2.1, p.2.2.2.2.1) (Sum.elim (fun z => k .ret [.lst tRange z.1, .lst tRange z.2.1, .bool z.2.2.1, .int .i64 z.2.2.2.1, .int .i64 z.2.2.2.2] []) (fun z => k (.exit 0) [.lst tRange z.1, .lst tRange z.2.1, .bool z.2.2.1, .int .i64 z.2.2.2.1, .int .i64 z.2.2.2.2] [])))
      (none)⟩
  | 2000006 => some ⟨[0, 2, 4, 6, 8, 10, 12, 14, 16], [], fun _ _ _ => none⟩
  | _ => none

def slices_Equal_Pair_v0 : ((List dRange) × (List dRange) × Bool × Int × Int) → List AV := (fun x => [.lst tRange x.1, .lst tRange x.2.1, .bool x.2.2.1, .int .i64 x.2.2.2.1, .int .i64 x.2.2.2.2])
def slices_Equal_Pair_s0 : ((List dRange) × (List dRange) × Bool × Int × Int) → St := (fun x => [])
def slices_Equal_Pair_e0 : (((List dRange) × (List dRange) × Bool × Int × Int) ⊕ ((List dRange) × (List dRange) × Bool × Int × Int)) → Out × List AV × St := (Sum.elim (fun z => (.ret, [.lst tRange z.1, .lst tRange z.2.1, .bool z.2.2.1, .int .i64 z.2.2.2.1, .int .i64 z.2.2.2.2], [])) (fun z => ((.exit 0), [.lst tRange z.1, .lst tRange z.2.1, .bool z.2.2.1, .int .i64 z.2.2.2.1, .int .i64 z.2.2.2.2], [])))

theorem slices_Equal_Pair_bx0 (x : ((List dRange) × (List dRange) × Bool × Int × Int)) : exec G22 ⟨0, 26, slices_Equal_Pair_loops⟩ (loopBody Try.f159 0) (bodyK ⟨0, 26, slices_Equal_Pair_loops⟩ [0, 1, 4, 12, 13] []) (setEs (deads 26) [0, 1, 4, 12, 13] (slices_Equal_Pair_v0 x)) (slices_Equal_Pair_s0 x) = slices_Equal_Pair_b0 x (Sum.elim (fun y => some ⟨.norm, slices_Equal_Pair_v0 y, slices_Equal_Pair_s0 y⟩) fun z => some ⟨(slices_Equal_Pair_e0 z).1, (slices_Equal_Pair_e0 z).2.1, (slices_Equal_Pair_e0 z).2.2⟩) := by
  kernel_rfl

theorem slices_Equal_Pair_lo0 : ∀ sp, (slices_Equal_Pair_loops 0) = some sp → LoopOk G22 ⟨0, 26, slices_Equal_Pair_loops⟩ sp (loopBody Try.f159 0) := by
  intro sp hsp vals st k r h
  cases hsp
  dsimp only at h
  rcases onPats_inv2 h with ⟨p, q, rfl, rfl, h⟩ | h
  · exact loop_runs2 slices_Equal_Pair_bp0 slices_Equal_Pair_v0 slices_Equal_Pair_s0 slices_Equal_Pair_e0 (fun z => by rcases z with z | z <;> (intro h; cases h)) slices_Equal_Pair_bx0 Fuel (p.1, p.2.1, p.2.2.1, p.2.2.2.1, p.2.2.2.2.1) _ k r (fun z => by rcases z with z | z <;> rfl) h
  cases h

theorem slices_Equal_Pair_y (a0 : (List dRange)) (a1 : (List dRange)) : execFn G22 slices_Equal_Pair_loops Try.f159 [.lst tRange a0, .lst tRange a1] [] = slices_Equal_Pair_k a0 a1 (fun (y : Bool) => some ⟨.ret, [.bool y], []⟩) := by rw [slices_Equal_Pair_e]; kernel_rfl

theorem slices_Equal_Pair_l : LoopsOk G22 ⟨0, 26, slices_Equal_Pair_loops⟩ (Try.f159.body.getD .skip) :=
  loopsOk_of (ids := [0]) (by kernel_rfl) (by kernel_rfl) ⟨slices_Equal_Pair_lo0, trivial⟩

theorem slices_Equal_Pair_c : Contract Try.prog 159 slices_Equal_Pair_g := by
  refine told G22_ok follows Try.func159 (c := Try.f159.body.getD .skip) (by kernel_rfl) ?_
  intro args s k r hk
  unfold slices_Equal_Pair_g at hk
  rcases onPats_inv hk with ⟨p, q, rfl, rfl⟩ | hk
  · exact ⟨slices_Equal_Pair_loops, slices_Equal_Pair_q p.1 p.2.1, slices_Equal_Pair_y p.1 p.2.1, slices_Equal_Pair_l⟩
  cases hk

def G23 : Glob := G22.add 159 slices_Equal_Pair_g

theorem G23_ok : GlobOk Try.prog G23 := G22_ok.add ⟨Try.f159, Try.func159, by kernel_rfl, by kernel_rfl⟩ slices_Equal_Pair_c



def impl_SameFrom_1_loops : Nat → Option LoopSpec
  | 2000001 => some ⟨[0, 4, 8, 12, 3, 7, 11, 15, 17, 18], [], fun _ _ _ => none⟩
  | _ => none

theorem impl_SameFrom_1_y (a0 : Int) (a1 : (List dVersion)) (a2 : (List dVersion)) : execFn G23 impl_SameFrom_1_loops Try.f158 [.int .i64 a0, .bp 0 0, .bp 1 0] [.box [.lst tVersion a1], .box [.lst tVersion a2]] = impl_SameFrom_1_k a0 a1 a2 (fun (y : (Bool × (List dVersion) × (List dVersion))) => some ⟨.ret, [.bool y.1], [.box [.lst tVersion y.2.1], .box [.lst tVersion y.2.2]]⟩) := by rw [impl_SameFrom_1_e]; kernel_rfl

theorem impl_SameFrom_1_l : LoopsOk G23 ⟨2, 14, impl_SameFrom_1_loops⟩ (Try.f158.body.getD .skip) :=
  loopsOk_of (ids := []) (by kernel_rfl) (by kernel_rfl) trivial

theorem impl_SameFrom_1_c : Contract Try.prog 158 impl_SameFrom_1_g := by
  refine told G23_ok follows Try.func158 (c := Try.f158.body.getD .skip) (by kernel_rfl) ?_
  intro args s k r hk
  unfold impl_SameFrom_1_g at hk
  rcases onPats_inv hk with ⟨p, q, rfl, rfl⟩ | hk
  · exact ⟨impl_SameFrom_1_loops, impl_SameFrom_1_q p.1 q.1.1 q.2.1.1, impl_SameFrom_1_y p.1 q.1.1 q.2.1.1, impl_SameFrom_1_l⟩
  cases hk

def G24 : Glob := G23.add 158 impl_SameFrom_1_g

theorem G24_ok : GlobOk Try.prog G24 := G23_ok.add ⟨Try.f158, Try.func158, by kernel_rfl, by kernel_rfl⟩ impl_SameFrom_1_c



def impl_SameFrom_loops : Nat → Option LoopSpec
  | 0 => some ⟨[2, 6, 7, 14, 15, 16], [], fun vals st k => onPats [.int .i64, .bool, .fn 158 [.bp 0 0, .bp 1 0], .own 2, .int .i64, .int .i64] [.box [.lst tVersion], .box [.lst tVersion], .arr tVersion] vals st (fun p q => loopK impl_SameFrom_b0 Fuel (p.1, p.2.1, p.2.2.2.2.1, p.2.2.2.2.2.1, q.1.1, q.2.1.1, q.2.2.1) (Sum.elim (fun z => k .ret [.int .i64 z.1, .bool z.2.1, .fn 158 [.bp 0 0, .bp 1 0], .own 2, .int .i64 z.2.2.1, .int .i64 z.2.2.2.1] [.box [.lst tVersion z.2.2.2.2.1], .box [.lst tVersion z.2.2.2.2.2.1], .arr tVersion z.2.2.2.2.2.2]) (fun z => k (.exit 0) [.int .i64 z.1, .bool z.2.1, .fn 158 [.bp 0 0, .bp 1 0], .own 2, .int .i64 z.2.2.1, .int .i64 z.2.2.2.1] [.box [.lst tVersion z.2.2.2.2.1], .box [.lst tVersion z.2.2.2.2.2.1], .arr tVersion z.2.2.2.2.2.2])))
      (none)⟩
  | _ => none

def impl_SameFrom_v0 : (Int × Bool × Int × Int × (List dVersion) × (List dVersion) × (List dVersion)) → List AV := (fun x => [.int .i64 x.1, .bool x.2.1, .fn 158 [.bp 0 0, .bp 1 0], .own 2, .int .i64 x.2.2.1, .int .i64 x.2.2.2.1])
def impl_SameFrom_s0 : (Int × Bool × Int × Int × (List dVersion) × (List dVersion) × (List dVersion)) → St := (fun x => [.box [.lst tVersion x.2.2.2.2.1], .box [.lst tVersion x.2.2.2.2.2.1], .arr tVersion x.2.2.2.2.2.2])
def impl_SameFrom_e0 : ((Int × Bool × Int × Int × (List dVersion) × (List dVersion) × (List dVersion)) ⊕ (Int × Bool × Int × Int × (List dVersion) × (List dVersion) × (List dVersion))) → Out × List AV × St := (Sum.elim (fun z => (.ret, [.int .i64 z.1, .bool z.2.1, .fn 158 [.bp 0 0, .bp 1 0], .own 2, .int .i64 z.2.2.1, .int .i64 z.2.2.2.1], [.box [.lst tVersion z.2.2.2.2.1], .box [.lst tVersion z.2.2.2.2.2.1], .arr tVersion z.2.2.2.2.2.2])) (fun z => ((.exit 0), [.int .i64 z.1, .bool z.2.1, .fn 158 [.bp 0 0, .bp 1 0], .own 2, .int .i64 z.2.2.1, .int .i64 z.2.2.2.1], [.box [.lst tVersion z.2.2.2.2.1], .box [.lst tVersion z.2.2.2.2.2.1], .arr tVersion z.2.2.2.2.2.2])))

theorem impl_SameFrom_bx0 (x : (Int × Bool × Int × Int × (List dVersion) × (List dVersion) × (List dVersion))) : exec G24 ⟨0, 35, impl_SameFrom_loops⟩ (loopBody Try.f73 0) (bodyK ⟨0, 35, impl_SameFrom_loops⟩ [2, 6, 7, 14, 15, 16] []) (setEs (deads 35) [2, 6, 7, 14, 15, 16] (impl_SameFrom_v0 x)) (impl_SameFrom_s0 x) = impl_SameFrom_b0 x (Sum.elim (fun y => some ⟨.norm, impl_SameFrom_v0 y, impl_SameFrom_s0 y⟩) fun z => some ⟨(impl_SameFrom_e0 z).1, (impl_SameFrom_e0 z).2.1, (impl_SameFrom_e0 z).2.2⟩) := by
  kernel_rfl

theorem impl_SameFrom_lo0 : ∀ sp, (impl_SameFrom_loops 0) = some sp → LoopOk G24 ⟨0, 35, impl_SameFrom_loops⟩ sp (loopBody Try.f73 0) := by
  intro sp hsp vals st k r h
  cases hsp
  dsimp only at h
  rcases onPats_inv2 h with ⟨p, q, rfl, rfl, h⟩ | h
  · exact loop_runs2 impl_SameFrom_bp0 impl_SameFrom_v0 impl_SameFrom_s0 impl_SameFrom_e0 (fun z => by rcases z with z | z <;> (intro h; cases h)) impl_SameFrom_bx0 Fuel (p.1, p.2.1, p.2.2.2.2.1, p.2.2.2.2.2.1, q.1.1, q.2.1.1, q.2.2.1) _ k r (fun z => by rcases z with z | z <;> rfl) h
  cases h

theorem impl_SameFrom_y (a0 : (List dVersion)) (a1 : (List dVersion)) (a2 : Int) : execFn G24 impl_SameFrom_loops Try.f73 [.lst tVersion a0, .lst tVersion a1, .int .i64 a2] [] = impl_SameFrom_k a0 a1 a2 (fun (y : Bool) => some ⟨.ret, [.bool y], []⟩) := by rw [impl_SameFrom_e]; kernel_rfl

theorem impl_SameFrom_l : LoopsOk G24 ⟨0, 35, impl_SameFrom_loops⟩ (Try.f73.body.getD .skip) :=
  loopsOk_of (ids := [0]) (by kernel_rfl) (by kernel_rfl) ⟨impl_SameFrom_lo0, trivial⟩

theorem impl_SameFrom_c : Contract Try.prog 73 impl_SameFrom_g := by
  refine told G24_ok follows Try.func73 (c := Try.f73.body.getD .skip) (by kernel_rfl) ?_
  intro args s k r hk
  unfold impl_SameFrom_g at hk
  rcases onPats_inv hk with ⟨p, q, rfl, rfl⟩ | hk
  · exact ⟨impl_SameFrom_loops, impl_SameFrom_q p.1 p.2.1 p.2.2.1, impl_SameFrom_y p.1 p.2.1 p.2.2.1, impl_SameFrom_l⟩
  cases hk

def G25 : Glob := G24.add 73 impl_SameFrom_g

theorem G25_ok : GlobOk Try.prog G25 := G24_ok.add ⟨Try.f73, Try.func73, by kernel_rfl, by kernel_rfl⟩ impl_SameFrom_c



def laws_eqVersion_loops : Nat → Option LoopSpec
  | _ => none

theorem laws_eqVersion_y (a0 : ByteArray) (a1 : ByteArray) (a2 : Bool) (a3 : Int) (a4 : ByteArray) (a5 : ByteArray) (a6 : Bool) (a7 : Int) : execFn G25 laws_eqVersion_loops Try.f123 [.agg [.str a0, .str a1, .bool a2, .int .i64 a3], .agg [.str a4, .str a5, .bool a6, .int .i64 a7]] [] = laws_eqVersion_k (a0, (a1, (a2, a3))) (a4, (a5, (a6, a7))) (fun (y : Bool) => some ⟨.ret, [.bool y], []⟩) := by rw [laws_eqVersion_e]; kernel_rfl

theorem laws_eqVersion_l : LoopsOk G25 ⟨0, 25, laws_eqVersion_loops⟩ (Try.f123.body.getD .skip) :=
  loopsOk_of (ids := []) (by kernel_rfl) (by kernel_rfl) trivial

theorem laws_eqVersion_c : Contract Try.prog 123 laws_eqVersion_g := by
  refine told G25_ok follows Try.func123 (c := Try.f123.body.getD .skip) (by kernel_rfl) ?_
  intro args s k r hk
  unfold laws_eqVersion_g at hk
  rcases onPats_inv hk with ⟨p, q, rfl, rfl⟩ | hk
  · exact ⟨laws_eqVersion_loops, laws_eqVersion_q p.1.1 p.1.2.1 p.1.2.2.1 p.1.2.2.2.1 p.2.1.1 p.2.1.2.1 p.2.1.2.2.1 p.2.1.2.2.2.1, laws_eqVersion_y p.1.1 p.1.2.1 p.1.2.2.1 p.1.2.2.2.1 p.2.1.1 p.2.1.2.1 p.2.1.2.2.1 p.2.1.2.2.2.1, laws_eqVersion_l⟩
  cases hk

def G26 : Glob := G25.add 123 laws_eqVersion_g

theorem G26_ok : GlobOk Try.prog G26 := G25_ok.add ⟨Try.f123, Try.func123, by kernel_rfl, by kernel_rfl⟩ laws_eqVersion_c



def laws_eqVersionS_loops : Nat → Option LoopSpec
  | 0 => some ⟨[0, 1, 4, 5], [], fun vals st k => onPats [.lst tVersion, .lst tVersion, .bool, .int .i64] [] vals st (fun p q => loopK laws_eqVersionS_b0 Fuel (p.1, p.2.1, p.2.2.1, p.2.2.2.1) (Sum.elim (fun z => k .ret [.lst tVersion z.1, .lst tVersion z.2.1, .bool z.2.2.1, .int .i64 z.2.2.2] []) (fun z => k (.exit 0) [.lst tVersion z.1, .lst tVersion z.2.1, .bool z.2.2.1, .int .i64 z.2.2.2] [])))
      (none)⟩
  | 2000006 => some ⟨[0, 2, 4, 6, 8, 10, 12, 14, 16, 18], [], fun _ _ _ => none⟩
  | _ => none

def laws_eqVersionS_v0 : ((List dVersion) × (List dVersion) × Bool × Int) → List AV := (fun x => [.lst tVersion x.1, .lst tVersion x.2.1, .bool x.2.2.1, .int .i64 x.2.2.2])
def laws_eqVersionS_s0 : ((List dVersion) × (List dVersion) × Bool × Int) → St := (fun x => [])
def laws_eqVersionS_e0 : (((List dVersion) × (List dVersion) × Bool × Int) ⊕ ((List dVersion) × (List dVersion) × Bool × Int)) → Out × List AV × St := (Sum.elim (fun z => (.ret, [.lst tVersion z.1, .lst tVersion z.2.1, .bool z.2.2.1, .int .i64 z.2.2.2], [])) (fun z => ((.exit 0), [.lst tVersion z.1, .lst tVersion z.2.1, .bool z.2.2.1, .int .i64 z.2.2.2], [])))

theorem laws_eqVersionS_bx0 (x : ((List dVersion) × (List dVersion) × Bool × Int)) : exec G26 ⟨0, 27, laws_eqVersionS_loops⟩ (loopBody Try.f44 0) (bodyK ⟨0, 27, laws_eqVersionS_loops⟩ [0, 1, 4, 5] []) (setEs (deads 27) [0, 1, 4, 5] (laws_eqVersionS_v0 x)) (laws_eqVersionS_s0 x) = laws_eqVersionS_b0 x (Sum.elim (fun y => some ⟨.norm, laws_eqVersionS_v0 y, laws_eqVersionS_s0 y⟩) fun z => some ⟨(laws_eqVersionS_e0 z).1, (laws_eqVersionS_e0 z).2.1, (laws_eqVersionS_e0 z).2.2⟩) := by
  kernel_rfl

theorem laws_eqVersionS_lo0 : ∀ sp, (laws_eqVersionS_loops 0) = some sp → LoopOk G26 ⟨0, 27, laws_eqVersionS_loops⟩ sp (loopBody Try.f44 0) := by
  intro sp hsp vals st k r h
  cases hsp
  dsimp only at h
  rcases onPats_inv2 h with ⟨p, q, rfl, rfl, h⟩ | h
  · exact loop_runs2 laws_eqVersionS_bp0 laws_eqVersionS_v0 laws_eqVersionS_s0 laws_eqVersionS_e0 (fun z => by rcases z with z | z <;> (intro h; cases h)) laws_eqVersionS_bx0 Fuel (p.1, p.2.1, p.2.2.1, p.2.2.2.1) _ k r (fun z => by rcases z with z | z <;> rfl) h
  cases h

theorem laws_eqVersionS_y (a0 : (List dVersion)) (a1 : (List dVersion)) : execFn G26 laws_eqVersionS_loops Try.f44 [.lst tVersion a0, .lst tVersion a1] [] = laws_eqVersionS_k a0 a1 (fun (y : Bool) => some ⟨.ret, [.bool y], []⟩) := by rw [laws_eqVersionS_e]; kernel_rfl

theorem laws_eqVersionS_l : LoopsOk G26 ⟨0, 27, laws_eqVersionS_loops⟩ (Try.f44.body.getD .skip) :=
  loopsOk_of (ids := [0]) (by kernel_rfl) (by kernel_rfl) ⟨laws_eqVersionS_lo0, trivial⟩

theorem laws_eqVersionS_c : Contract Try.prog 44 laws_eqVersionS_g := by
  refine told G26_ok follows Try.func44 (c := Try.f44.body.getD .skip) (by kernel_rfl) ?_
  intro args s k r hk
  unfold laws_eqVersionS_g at hk
  rcases onPats_inv hk with ⟨p, q, rfl, rfl⟩ | hk
  · exact ⟨laws_eqVersionS_loops, laws_eqVersionS_q p.1 p.2.1, laws_eqVersionS_y p.1 p.2.1, laws_eqVersionS_l⟩
  cases hk

def G27 : Glob := G26.add 44 laws_eqVersionS_g

theorem G27_ok : GlobOk Try.prog G27 := G26_ok.add ⟨Try.f44, Try.func44, by kernel_rfl, by kernel_rfl⟩ laws_eqVersionS_c



def laws_FnExactSameFrom_loops : Nat → Option LoopSpec
  | _ => none

theorem laws_FnExactSameFrom_y (a0 : (List dVersion)) (a1 : (List dVersion)) (a2 : Int) : execFn G27 laws_FnExactSameFrom_loops Try.f13 [.lst tVersion a0, .lst tVersion a1, .int .i64 a2] [] = laws_FnExactSameFrom_k a0 a1 a2 (fun (y : Bool) => some ⟨.ret, [.bool y], []⟩) := by rw [laws_FnExactSameFrom_e]; kernel_rfl

theorem laws_FnExactSameFrom_l : LoopsOk G27 ⟨0, 49, laws_FnExactSameFrom_loops⟩ (Try.f13.body.getD .skip) :=
  loopsOk_of (ids := []) (by kernel_rfl) (by kernel_rfl) trivial

theorem laws_FnExactSameFrom_c : Contract Try.prog 13 laws_FnExactSameFrom_g := by
  refine told G27_ok follows Try.func13 (c := Try.f13.body.getD .skip) (by kernel_rfl) ?_
  intro args s k r hk
  unfold laws_FnExactSameFrom_g at hk
  rcases onPats_inv hk with ⟨p, q, rfl, rfl⟩ | hk
  · exact ⟨laws_FnExactSameFrom_loops, laws_FnExactSameFrom_q p.1 p.2.1 p.2.2.1, laws_FnExactSameFrom_y p.1 p.2.1 p.2.2.1, laws_FnExactSameFrom_l⟩
  cases hk

def G28 : Glob := G27.add 13 laws_FnExactSameFrom_g

theorem G28_ok : GlobOk Try.prog G28 := G27_ok.add ⟨Try.f13, Try.func13, by kernel_rfl, by kernel_rfl⟩ laws_FnExactSameFrom_c

end

end Go.VE
