/- Each function told by its native program; written by gen.py. -/

import Derived.Test.YtpmahbmokfaflaaBaseTextS1

namespace Go.VE

open Go.Proofs

noncomputable section

set_option linter.unusedVariables false
set_option linter.unusedSimpArgs false
set_option maxRecDepth 100000


/-! ### loop.example/g00327/laws.eqBase -/

def laws_eqBase_loops : Nat → Option LoopSpec
  | _ => none

theorem laws_eqBase_x (a0 : (List dVersion)) (a1 : (List dTxn)) (a2 : (List dTxn)) (a3 : Int) (a4 : Int) (a5 : (List dVersion)) (a6 : (List dTxn)) (a7 : (List dTxn)) (a8 : Int) (a9 : Int) : execFn G69 laws_eqBase_loops Try.f51 [.agg [.lst tVersion a0, .lst tTxn a1, .lst tTxn a2, .int .i64 a3, .int .i64 a4], .agg [.lst tVersion a5, .lst tTxn a6, .lst tTxn a7, .int .i64 a8, .int .i64 a9]] [] = laws_eqBase_d (a0, (a1, (a2, (a3, a4)))) (a5, (a6, (a7, (a8, a9)))) (fun (y : Bool) => some ⟨.ret, [.bool y], []⟩) := by kernel_rfl

theorem laws_eqBase_y (a0 : (List dVersion)) (a1 : (List dTxn)) (a2 : (List dTxn)) (a3 : Int) (a4 : Int) (a5 : (List dVersion)) (a6 : (List dTxn)) (a7 : (List dTxn)) (a8 : Int) (a9 : Int) : execFn G69 laws_eqBase_loops Try.f51 [.agg [.lst tVersion a0, .lst tTxn a1, .lst tTxn a2, .int .i64 a3, .int .i64 a4], .agg [.lst tVersion a5, .lst tTxn a6, .lst tTxn a7, .int .i64 a8, .int .i64 a9]] [] = laws_eqBase_k (a0, (a1, (a2, (a3, a4)))) (a5, (a6, (a7, (a8, a9)))) (fun (y : Bool) => some ⟨.ret, [.bool y], []⟩) := (laws_eqBase_x a0 a1 a2 a3 a4 a5 a6 a7 a8 a9).trans (by rw [laws_eqBase_e])

theorem laws_eqBase_l : LoopsOk G69 ⟨0, 33, laws_eqBase_loops⟩ (Try.f51.body.getD .skip) :=
  loopsOk_of (ids := []) (by kernel_rfl) (by kernel_rfl) trivial

theorem laws_eqBase_c : Contract Try.prog 51 laws_eqBase_g := by
  refine told G69_ok follows Try.func51 (c := Try.f51.body.getD .skip) (by kernel_rfl) ?_
  intro args s k r hk
  unfold laws_eqBase_g at hk
  rcases onPats_inv hk with ⟨p, q, rfl, rfl⟩ | hk
  · exact ⟨laws_eqBase_loops, laws_eqBase_q p.1.1 p.1.2.1 p.1.2.2.1 p.1.2.2.2.1 p.1.2.2.2.2.1 p.2.1.1 p.2.1.2.1 p.2.1.2.2.1 p.2.1.2.2.2.1 p.2.1.2.2.2.2.1, laws_eqBase_y p.1.1 p.1.2.1 p.1.2.2.1 p.1.2.2.2.1 p.1.2.2.2.2.1 p.2.1.1 p.2.1.2.1 p.2.1.2.2.1 p.2.1.2.2.2.1 p.2.1.2.2.2.2.1, laws_eqBase_l⟩
  cases hk

def G70 : Glob := G69.add 51 laws_eqBase_g

theorem G70_ok : GlobOk Try.prog G70 := G69_ok.add ⟨Try.f51, Try.func51, by kernel_rfl, by kernel_rfl⟩ laws_eqBase_c

/-! ### loop.example/g00327/laws.FnExactBaseText -/

def laws_FnExactBaseText_loops : Nat → Option LoopSpec
  | 5000010 => some ⟨[1, 2, 6], [], fun vals st k => onPats [.bp 0 0, .bool, .bp 1 0] [.box [.lst tVersion, .lst tTxn, .lst tTxn, .int .i64, .int .i64], .box [.own 2, .own 3, .own 4, .int .i64, .int .i64], .arr tVersion, .arr tTxn, .arr tTxn] vals st (fun p q => laws_FnExactBaseText_j5000010 (p.2.1, q.1.1, q.1.2.1, q.1.2.2.1, q.1.2.2.2.1, q.1.2.2.2.2.1, q.2.1.2.2.2.1, q.2.1.2.2.2.2.1, q.2.2.1, q.2.2.2.1, q.2.2.2.2.1) (fun z => k .ret [.bp 0 0, .bool z.1, .bp 1 0] [.box [.lst tVersion z.2.1, .lst tTxn z.2.2.1, .lst tTxn z.2.2.2.1, .int .i64 z.2.2.2.2.1, .int .i64 z.2.2.2.2.2.1], .box [.own 2, .own 3, .own 4, .int .i64 z.2.2.2.2.2.2.1, .int .i64 z.2.2.2.2.2.2.2.1], .arr tVersion z.2.2.2.2.2.2.2.2.1, .arr tTxn z.2.2.2.2.2.2.2.2.2.1, .arr tTxn z.2.2.2.2.2.2.2.2.2.2]))
      (none)⟩
  | _ => none

def laws_FnExactBaseText_jv5000010 : (Bool × (List dVersion) × (List dTxn) × (List dTxn) × Int × Int × Int × Int × (List dVersion) × (List dTxn) × (List dTxn)) → List AV := (fun x => [.bp 0 0, .bool x.1, .bp 1 0])
def laws_FnExactBaseText_js5000010 : (Bool × (List dVersion) × (List dTxn) × (List dTxn) × Int × Int × Int × Int × (List dVersion) × (List dTxn) × (List dTxn)) → St := (fun x => [.box [.lst tVersion x.2.1, .lst tTxn x.2.2.1, .lst tTxn x.2.2.2.1, .int .i64 x.2.2.2.2.1, .int .i64 x.2.2.2.2.2.1], .box [.own 2, .own 3, .own 4, .int .i64 x.2.2.2.2.2.2.1, .int .i64 x.2.2.2.2.2.2.2.1], .arr tVersion x.2.2.2.2.2.2.2.2.1, .arr tTxn x.2.2.2.2.2.2.2.2.2.1, .arr tTxn x.2.2.2.2.2.2.2.2.2.2])
def laws_FnExactBaseText_je5000010 : (Bool × (List dVersion) × (List dTxn) × (List dTxn) × Int × Int × Int × Int × (List dVersion) × (List dTxn) × (List dTxn)) → Out × List AV × St := (fun z => (.ret, [.bp 0 0, .bool z.1, .bp 1 0], [.box [.lst tVersion z.2.1, .lst tTxn z.2.2.1, .lst tTxn z.2.2.2.1, .int .i64 z.2.2.2.2.1, .int .i64 z.2.2.2.2.2.1], .box [.own 2, .own 3, .own 4, .int .i64 z.2.2.2.2.2.2.1, .int .i64 z.2.2.2.2.2.2.2.1], .arr tVersion z.2.2.2.2.2.2.2.2.1, .arr tTxn z.2.2.2.2.2.2.2.2.2.1, .arr tTxn z.2.2.2.2.2.2.2.2.2.2]))

theorem laws_FnExactBaseText_jx5000010 (x : (Bool × (List dVersion) × (List dTxn) × (List dTxn) × Int × Int × Int × Int × (List dVersion) × (List dTxn) × (List dTxn))) : exec G70 ⟨0, 40, laws_FnExactBaseText_loops⟩ (loopBody Try.f9 5000010) (bodyK ⟨0, 40, laws_FnExactBaseText_loops⟩ [1, 2, 6] []) (setEs (deads 40) [1, 2, 6] (laws_FnExactBaseText_jv5000010 x)) (laws_FnExactBaseText_js5000010 x) = laws_FnExactBaseText_j5000010 x (fun z => some ⟨(laws_FnExactBaseText_je5000010 z).1, (laws_FnExactBaseText_je5000010 z).2.1, (laws_FnExactBaseText_je5000010 z).2.2⟩) := by
  kernel_rfl

theorem laws_FnExactBaseText_lo5000010 : ∀ sp, (laws_FnExactBaseText_loops 5000010) = some sp → CutOk G70 ⟨0, 40, laws_FnExactBaseText_loops⟩ sp (loopBody Try.f9 5000010) := by
  intro sp hsp vals st k r h
  cases hsp
  dsimp only at h
  rcases onPats_inv2 h with ⟨p, q, rfl, rfl, h⟩ | h
  · exact cut_runs laws_FnExactBaseText_jp5000010 laws_FnExactBaseText_jv5000010 laws_FnExactBaseText_js5000010 laws_FnExactBaseText_je5000010 laws_FnExactBaseText_jx5000010 (p.2.1, q.1.1, q.1.2.1, q.1.2.2.1, q.1.2.2.2.1, q.1.2.2.2.2.1, q.2.1.2.2.2.1, q.2.1.2.2.2.2.1, q.2.2.1, q.2.2.2.1, q.2.2.2.2.1) _ k r (fun z => rfl) h
  cases h

theorem laws_FnExactBaseText_x (a0 : (List dVersion)) (a1 : (List dTxn)) (a2 : (List dTxn)) (a3 : Int) (a4 : Int) : execFn G70 laws_FnExactBaseText_loops Try.f9 [.agg [.lst tVersion a0, .lst tTxn a1, .lst tTxn a2, .int .i64 a3, .int .i64 a4]] [] = laws_FnExactBaseText_d (a0, (a1, (a2, (a3, a4)))) (fun (y : Bool) => some ⟨.ret, [.bool y], []⟩) := by kernel_rfl

theorem laws_FnExactBaseText_y (a0 : (List dVersion)) (a1 : (List dTxn)) (a2 : (List dTxn)) (a3 : Int) (a4 : Int) : execFn G70 laws_FnExactBaseText_loops Try.f9 [.agg [.lst tVersion a0, .lst tTxn a1, .lst tTxn a2, .int .i64 a3, .int .i64 a4]] [] = laws_FnExactBaseText_k (a0, (a1, (a2, (a3, a4)))) (fun (y : Bool) => some ⟨.ret, [.bool y], []⟩) := (laws_FnExactBaseText_x a0 a1 a2 a3 a4).trans (by rw [laws_FnExactBaseText_e])

theorem laws_FnExactBaseText_l : LoopsOk G70 ⟨0, 40, laws_FnExactBaseText_loops⟩ (Try.f9.body.getD .skip) :=
  loopsOk_of (ids := [5000010]) (by kernel_rfl) (by kernel_rfl) ⟨laws_FnExactBaseText_lo5000010, trivial⟩

theorem laws_FnExactBaseText_c : Contract Try.prog 9 laws_FnExactBaseText_g := by
  refine told G70_ok follows Try.func9 (c := Try.f9.body.getD .skip) (by kernel_rfl) ?_
  intro args s k r hk
  unfold laws_FnExactBaseText_g at hk
  rcases onPats_inv hk with ⟨p, q, rfl, rfl⟩ | hk
  · exact ⟨laws_FnExactBaseText_loops, laws_FnExactBaseText_q p.1.1 p.1.2.1 p.1.2.2.1 p.1.2.2.2.1 p.1.2.2.2.2.1, laws_FnExactBaseText_y p.1.1 p.1.2.1 p.1.2.2.1 p.1.2.2.2.1 p.1.2.2.2.2.1, laws_FnExactBaseText_l⟩
  cases hk

def G71 : Glob := G70.add 9 laws_FnExactBaseText_g

theorem G71_ok : GlobOk Try.prog G71 := G70_ok.add ⟨Try.f9, Try.func9, by kernel_rfl, by kernel_rfl⟩ laws_FnExactBaseText_c

end

end Go.VE
