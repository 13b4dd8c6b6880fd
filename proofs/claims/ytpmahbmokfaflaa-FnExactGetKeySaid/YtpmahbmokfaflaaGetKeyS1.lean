/- Each function told by its native program; written by gen.py. -/

import Derived.Test.YtpmahbmokfaflaaGetKeyS0

namespace Go.VE

open Go.Proofs

noncomputable section

set_option linter.unusedVariables false
set_option linter.unusedSimpArgs false
set_option maxRecDepth 100000




def n50n_loops : Nat → Option LoopSpec
  | _ => none

theorem n50n_y (a0 : ByteArray) (a1 : ByteArray) (a2 : Bool) (a3 : Int) (a4 : Int) : execFn G0 n50n_loops Try.f192 [.agg [.str a0, .str a1, .bool a2, .int .i64 a3], .int .i64 a4] [] = n50n_k (a0, (a1, (a2, a3))) a4 (fun (y : Int) => some ⟨.ret, [.int .i64 y], []⟩) := by rw [n50n_e]; kernel_rfl

theorem n50n_l : LoopsOk G0 ⟨0, 20, n50n_loops⟩ (Try.f192.body.getD .skip) :=
  loopsOk_of (ids := []) (by kernel_rfl) (by kernel_rfl) trivial

theorem n50n_c : Contract Try.prog 192 n50n_g := by
  refine told G0_ok follows Try.func192 (c := Try.f192.body.getD .skip) (by kernel_rfl) ?_
  intro args s k r hk
  unfold n50n_g at hk
  rcases onPats_inv hk with ⟨p, q, rfl, rfl⟩ | hk
  · exact ⟨n50n_loops, n50n_q p.1.1 p.1.2.1 p.1.2.2.1 p.1.2.2.2.1 p.2.1, n50n_y p.1.1 p.1.2.1 p.1.2.2.1 p.1.2.2.2.1 p.2.1, n50n_l⟩
  cases hk

def G1 : Glob := G0.add 192 n50n_g

theorem G1_ok : GlobOk Try.prog G1 := G0_ok.add ⟨Try.f192, Try.func192, by kernel_rfl, by kernel_rfl⟩ n50n_c



def n51n_loops : Nat → Option LoopSpec
  | 0 => some ⟨[0, 1, 4, 5], [], fun vals st k => onPats [.lst tVersion, .int .i64, .int .i64, .int .i64] [] vals st (fun p q => loopK n51n_b0 Fuel (p.1, p.2.1, p.2.2.1, p.2.2.2.1) (Sum.elim (fun z => k .ret [.lst tVersion z.1, .int .i64 z.2.1, .int .i64 z.2.2.1, .int .i64 z.2.2.2] []) (fun z => k (.exit 0) [.lst tVersion z.1, .int .i64 z.2.1, .int .i64 z.2.2.1, .int .i64 z.2.2.2] [])))
      (none)⟩
  | _ => none

def n51n_v0 : q14T → List AV := (fun x => [.lst tVersion x.1, .int .i64 x.2.1, .int .i64 x.2.2.1, .int .i64 x.2.2.2])
def n51n_s0 : q14T → St := (fun x => [])
def n51n_e0 : (q14T ⊕ q14T) → Out × List AV × St := (Sum.elim (fun z => (.ret, [.lst tVersion z.1, .int .i64 z.2.1, .int .i64 z.2.2.1, .int .i64 z.2.2.2], [])) (fun z => ((.exit 0), [.lst tVersion z.1, .int .i64 z.2.1, .int .i64 z.2.2.1, .int .i64 z.2.2.2], [])))

theorem n51n_bx0 (x : q14T) : exec G1 ⟨0, 27, n51n_loops⟩ (loopBody Try.f110 0) (bodyK ⟨0, 27, n51n_loops⟩ [0, 1, 4, 5] []) (setEs (deads 27) [0, 1, 4, 5] (n51n_v0 x)) (n51n_s0 x) = n51n_b0 x (Sum.elim (fun y => some ⟨.norm, n51n_v0 y, n51n_s0 y⟩) fun z => some ⟨(n51n_e0 z).1, (n51n_e0 z).2.1, (n51n_e0 z).2.2⟩) := by
  kernel_rfl

theorem n51n_lo0 : ∀ sp, (n51n_loops 0) = some sp → LoopOk G1 ⟨0, 27, n51n_loops⟩ sp (loopBody Try.f110 0) := by
  intro sp hsp vals st k r h
  cases hsp
  dsimp only at h
  rcases onPats_inv2 h with ⟨p, q, rfl, rfl, h⟩ | h
  · exact loop_runs2 n51n_bp0 n51n_v0 n51n_s0 n51n_e0 (fun z => by rcases z with z | z <;> (intro h; cases h)) n51n_bx0 Fuel (p.1, p.2.1, p.2.2.1, p.2.2.2.1) _ k r (fun z => by rcases z with z | z <;> rfl) h
  cases h

theorem n51n_y (a0 : (List dVersion)) (a1 : Int) : execFn G1 n51n_loops Try.f110 [.lst tVersion a0, .int .i64 a1] [] = n51n_k a0 a1 (fun (y : Int) => some ⟨.ret, [.int .i64 y], []⟩) := by rw [n51n_e]; kernel_rfl

theorem n51n_l : LoopsOk G1 ⟨0, 27, n51n_loops⟩ (Try.f110.body.getD .skip) :=
  loopsOk_of (ids := [0]) (by kernel_rfl) (by kernel_rfl) ⟨n51n_lo0, trivial⟩

theorem n51n_c : Contract Try.prog 110 n51n_g := by
  refine told G1_ok follows Try.func110 (c := Try.f110.body.getD .skip) (by kernel_rfl) ?_
  intro args s k r hk
  unfold n51n_g at hk
  rcases onPats_inv hk with ⟨p, q, rfl, rfl⟩ | hk
  · exact ⟨n51n_loops, n51n_q p.1 p.2.1, n51n_y p.1 p.2.1, n51n_l⟩
  cases hk

def G2 : Glob := G1.add 110 n51n_g

theorem G2_ok : GlobOk Try.prog G2 := G1_ok.add ⟨Try.f110, Try.func110, by kernel_rfl, by kernel_rfl⟩ n51n_c



def n46n_loops : Nat → Option LoopSpec
  | _ => none

theorem n46n_y (a0 : ByteArray) (a1 : ByteArray) (a2 : Int) : execFn G2 n46n_loops Try.f246 [.agg [.str a0, .str a1], .int .i64 a2] [] = n46n_k (a0, a1) a2 (fun (y : Int) => some ⟨.ret, [.int .i64 y], []⟩) := by rw [n46n_e]; kernel_rfl

theorem n46n_l : LoopsOk G2 ⟨0, 20, n46n_loops⟩ (Try.f246.body.getD .skip) :=
  loopsOk_of (ids := []) (by kernel_rfl) (by kernel_rfl) trivial

theorem n46n_c : Contract Try.prog 246 n46n_g := by
  refine told G2_ok follows Try.func246 (c := Try.f246.body.getD .skip) (by kernel_rfl) ?_
  intro args s k r hk
  unfold n46n_g at hk
  rcases onPats_inv hk with ⟨p, q, rfl, rfl⟩ | hk
  · exact ⟨n46n_loops, n46n_q p.1.1 p.1.2.1 p.2.1, n46n_y p.1.1 p.1.2.1 p.2.1, n46n_l⟩
  cases hk

def G3 : Glob := G2.add 246 n46n_g

theorem G3_ok : GlobOk Try.prog G3 := G2_ok.add ⟨Try.f246, Try.func246, by kernel_rfl, by kernel_rfl⟩ n46n_c



def n47n_loops : Nat → Option LoopSpec
  | 0 => some ⟨[0, 1, 4, 5], [], fun vals st k => onPats [.lst tRange, .int .i64, .int .i64, .int .i64] [] vals st (fun p q => loopK n47n_b0 Fuel (p.1, p.2.1, p.2.2.1, p.2.2.2.1) (Sum.elim (fun z => k .ret [.lst tRange z.1, .int .i64 z.2.1, .int .i64 z.2.2.1, .int .i64 z.2.2.2] []) (fun z => k (.exit 0) [.lst tRange z.1, .int .i64 z.2.1, .int .i64 z.2.2.1, .int .i64 z.2.2.2] [])))
      (none)⟩
  | _ => none

def n47n_v0 : q3T → List AV := (fun x => [.lst tRange x.1, .int .i64 x.2.1, .int .i64 x.2.2.1, .int .i64 x.2.2.2])
def n47n_s0 : q3T → St := (fun x => [])
def n47n_e0 : (q3T ⊕ q3T) → Out × List AV × St := (Sum.elim (fun z => (.ret, [.lst tRange z.1, .int .i64 z.2.1, .int .i64 z.2.2.1, .int .i64 z.2.2.2], [])) (fun z => ((.exit 0), [.lst tRange z.1, .int .i64 z.2.1, .int .i64 z.2.2.1, .int .i64 z.2.2.2], [])))

theorem n47n_bx0 (x : q3T) : exec G3 ⟨0, 27, n47n_loops⟩ (loopBody Try.f180 0) (bodyK ⟨0, 27, n47n_loops⟩ [0, 1, 4, 5] []) (setEs (deads 27) [0, 1, 4, 5] (n47n_v0 x)) (n47n_s0 x) = n47n_b0 x (Sum.elim (fun y => some ⟨.norm, n47n_v0 y, n47n_s0 y⟩) fun z => some ⟨(n47n_e0 z).1, (n47n_e0 z).2.1, (n47n_e0 z).2.2⟩) := by
  kernel_rfl

theorem n47n_lo0 : ∀ sp, (n47n_loops 0) = some sp → LoopOk G3 ⟨0, 27, n47n_loops⟩ sp (loopBody Try.f180 0) := by
  intro sp hsp vals st k r h
  cases hsp
  dsimp only at h
  rcases onPats_inv2 h with ⟨p, q, rfl, rfl, h⟩ | h
  · exact loop_runs2 n47n_bp0 n47n_v0 n47n_s0 n47n_e0 (fun z => by rcases z with z | z <;> (intro h; cases h)) n47n_bx0 Fuel (p.1, p.2.1, p.2.2.1, p.2.2.2.1) _ k r (fun z => by rcases z with z | z <;> rfl) h
  cases h

theorem n47n_y (a0 : (List dRange)) (a1 : Int) : execFn G3 n47n_loops Try.f180 [.lst tRange a0, .int .i64 a1] [] = n47n_k a0 a1 (fun (y : Int) => some ⟨.ret, [.int .i64 y], []⟩) := by rw [n47n_e]; kernel_rfl

theorem n47n_l : LoopsOk G3 ⟨0, 27, n47n_loops⟩ (Try.f180.body.getD .skip) :=
  loopsOk_of (ids := [0]) (by kernel_rfl) (by kernel_rfl) ⟨n47n_lo0, trivial⟩

theorem n47n_c : Contract Try.prog 180 n47n_g := by
  refine told G3_ok follows Try.func180 (c := Try.f180.body.getD .skip) (by kernel_rfl) ?_
  intro args s k r hk
  unfold n47n_g at hk
  rcases onPats_inv hk with ⟨p, q, rfl, rfl⟩ | hk
  · exact ⟨n47n_loops, n47n_q p.1 p.2.1, n47n_y p.1 p.2.1, n47n_l⟩
  cases hk

def G4 : Glob := G3.add 180 n47n_g

theorem G4_ok : GlobOk Try.prog G4 := G3_ok.add ⟨Try.f180, Try.func180, by kernel_rfl, by kernel_rfl⟩ n47n_c



def n52n_loops : Nat → Option LoopSpec
  | _ => none

theorem n52n_y (a0 : ByteArray) (a1 : ByteArray) (a2 : Bool) (a3 : Int) : execFn G4 n52n_loops Try.f247 [.agg [.str a0, .str a1, .bool a2], .int .i64 a3] [] = n52n_k (a0, (a1, a2)) a3 (fun (y : Int) => some ⟨.ret, [.int .i64 y], []⟩) := by rw [n52n_e]; kernel_rfl

theorem n52n_l : LoopsOk G4 ⟨0, 20, n52n_loops⟩ (Try.f247.body.getD .skip) :=
  loopsOk_of (ids := []) (by kernel_rfl) (by kernel_rfl) trivial

theorem n52n_c : Contract Try.prog 247 n52n_g := by
  refine told G4_ok follows Try.func247 (c := Try.f247.body.getD .skip) (by kernel_rfl) ?_
  intro args s k r hk
  unfold n52n_g at hk
  rcases onPats_inv hk with ⟨p, q, rfl, rfl⟩ | hk
  · exact ⟨n52n_loops, n52n_q p.1.1 p.1.2.1 p.1.2.2.1 p.2.1, n52n_y p.1.1 p.1.2.1 p.1.2.2.1 p.2.1, n52n_l⟩
  cases hk

def G5 : Glob := G4.add 247 n52n_g

theorem G5_ok : GlobOk Try.prog G5 := G4_ok.add ⟨Try.f247, Try.func247, by kernel_rfl, by kernel_rfl⟩ n52n_c



def n53n_loops : Nat → Option LoopSpec
  | 0 => some ⟨[0, 1, 4, 5], [], fun vals st k => onPats [.lst tWrite, .int .i64, .int .i64, .int .i64] [] vals st (fun p q => loopK n53n_b0 Fuel (p.1, p.2.1, p.2.2.1, p.2.2.2.1) (Sum.elim (fun z => k .ret [.lst tWrite z.1, .int .i64 z.2.1, .int .i64 z.2.2.1, .int .i64 z.2.2.2] []) (fun z => k (.exit 0) [.lst tWrite z.1, .int .i64 z.2.1, .int .i64 z.2.2.1, .int .i64 z.2.2.2] [])))
      (none)⟩
  | _ => none

def n53n_v0 : q19T → List AV := (fun x => [.lst tWrite x.1, .int .i64 x.2.1, .int .i64 x.2.2.1, .int .i64 x.2.2.2])
def n53n_s0 : q19T → St := (fun x => [])
def n53n_e0 : (q19T ⊕ q19T) → Out × List AV × St := (Sum.elim (fun z => (.ret, [.lst tWrite z.1, .int .i64 z.2.1, .int .i64 z.2.2.1, .int .i64 z.2.2.2], [])) (fun z => ((.exit 0), [.lst tWrite z.1, .int .i64 z.2.1, .int .i64 z.2.2.1, .int .i64 z.2.2.2], [])))

theorem n53n_bx0 (x : q19T) : exec G5 ⟨0, 27, n53n_loops⟩ (loopBody Try.f181 0) (bodyK ⟨0, 27, n53n_loops⟩ [0, 1, 4, 5] []) (setEs (deads 27) [0, 1, 4, 5] (n53n_v0 x)) (n53n_s0 x) = n53n_b0 x (Sum.elim (fun y => some ⟨.norm, n53n_v0 y, n53n_s0 y⟩) fun z => some ⟨(n53n_e0 z).1, (n53n_e0 z).2.1, (n53n_e0 z).2.2⟩) := by
  kernel_rfl

theorem n53n_lo0 : ∀ sp, (n53n_loops 0) = some sp → LoopOk G5 ⟨0, 27, n53n_loops⟩ sp (loopBody Try.f181 0) := by
  intro sp hsp vals st k r h
  cases hsp
  dsimp only at h
  rcases onPats_inv2 h with ⟨p, q, rfl, rfl, h⟩ | h
  · exact loop_runs2 n53n_bp0 n53n_v0 n53n_s0 n53n_e0 (fun z => by rcases z with z | z <;> (intro h; cases h)) n53n_bx0 Fuel (p.1, p.2.1, p.2.2.1, p.2.2.2.1) _ k r (fun z => by rcases z with z | z <;> rfl) h
  cases h

theorem n53n_y (a0 : (List dWrite)) (a1 : Int) : execFn G5 n53n_loops Try.f181 [.lst tWrite a0, .int .i64 a1] [] = n53n_k a0 a1 (fun (y : Int) => some ⟨.ret, [.int .i64 y], []⟩) := by rw [n53n_e]; kernel_rfl

theorem n53n_l : LoopsOk G5 ⟨0, 27, n53n_loops⟩ (Try.f181.body.getD .skip) :=
  loopsOk_of (ids := [0]) (by kernel_rfl) (by kernel_rfl) ⟨n53n_lo0, trivial⟩

theorem n53n_c : Contract Try.prog 181 n53n_g := by
  refine told G5_ok follows Try.func181 (c := Try.f181.body.getD .skip) (by kernel_rfl) ?_
  intro args s k r hk
  unfold n53n_g at hk
  rcases onPats_inv hk with ⟨p, q, rfl, rfl⟩ | hk
  · exact ⟨n53n_loops, n53n_q p.1 p.2.1, n53n_y p.1 p.2.1, n53n_l⟩
  cases hk

def G6 : Glob := G5.add 181 n53n_g

theorem G6_ok : GlobOk Try.prog G6 := G5_ok.add ⟨Try.f181, Try.func181, by kernel_rfl, by kernel_rfl⟩ n53n_c



def n48n_loops : Nat → Option LoopSpec
  | _ => none

theorem n48n_y (a0 : Int) (a1 : Int) (a2 : Int) (a3 : Int) (a4 : (List dRange)) (a5 : (List dWrite)) (a6 : Bool) (a7 : ByteArray) (a8 : Int) : execFn G6 n48n_loops Try.f93 [.agg [.int .i64 a0, .int .i64 a1, .int .i64 a2, .int .i64 a3, .lst tRange a4, .lst tWrite a5, .bool a6, .str a7], .int .i64 a8] [] = n48n_k (a0, (a1, (a2, (a3, (a4, (a5, (a6, a7))))))) a8 (fun (y : Int) => some ⟨.ret, [.int .i64 y], []⟩) := by rw [n48n_e]; kernel_rfl

theorem n48n_l : LoopsOk G6 ⟨0, 25, n48n_loops⟩ (Try.f93.body.getD .skip) :=
  loopsOk_of (ids := []) (by kernel_rfl) (by kernel_rfl) trivial

theorem n48n_c : Contract Try.prog 93 n48n_g := by
  refine told G6_ok follows Try.func93 (c := Try.f93.body.getD .skip) (by kernel_rfl) ?_
  intro args s k r hk
  unfold n48n_g at hk
  rcases onPats_inv hk with ⟨p, q, rfl, rfl⟩ | hk
  · exact ⟨n48n_loops, n48n_q p.1.1 p.1.2.1 p.1.2.2.1 p.1.2.2.2.1 p.1.2.2.2.2.1 p.1.2.2.2.2.2.1 p.1.2.2.2.2.2.2.1 p.1.2.2.2.2.2.2.2.1 p.2.1, n48n_y p.1.1 p.1.2.1 p.1.2.2.1 p.1.2.2.2.1 p.1.2.2.2.2.1 p.1.2.2.2.2.2.1 p.1.2.2.2.2.2.2.1 p.1.2.2.2.2.2.2.2.1 p.2.1, n48n_l⟩
  cases hk

def G7 : Glob := G6.add 93 n48n_g

theorem G7_ok : GlobOk Try.prog G7 := G6_ok.add ⟨Try.f93, Try.func93, by kernel_rfl, by kernel_rfl⟩ n48n_c



def n49n_loops : Nat → Option LoopSpec
  | 0 => some ⟨[0, 1, 4, 5], [], fun vals st k => onPats [.lst tTxn, .int .i64, .int .i64, .int .i64] [] vals st (fun p q => loopK n49n_b0 Fuel (p.1, p.2.1, p.2.2.1, p.2.2.2.1) (Sum.elim (fun z => k .ret [.lst tTxn z.1, .int .i64 z.2.1, .int .i64 z.2.2.1, .int .i64 z.2.2.2] []) (fun z => k (.exit 0) [.lst tTxn z.1, .int .i64 z.2.1, .int .i64 z.2.2.1, .int .i64 z.2.2.2] [])))
      (none)⟩
  | _ => none

def n49n_v0 : q8T → List AV := (fun x => [.lst tTxn x.1, .int .i64 x.2.1, .int .i64 x.2.2.1, .int .i64 x.2.2.2])
def n49n_s0 : q8T → St := (fun x => [])
def n49n_e0 : (q8T ⊕ q8T) → Out × List AV × St := (Sum.elim (fun z => (.ret, [.lst tTxn z.1, .int .i64 z.2.1, .int .i64 z.2.2.1, .int .i64 z.2.2.2], [])) (fun z => ((.exit 0), [.lst tTxn z.1, .int .i64 z.2.1, .int .i64 z.2.2.1, .int .i64 z.2.2.2], [])))

theorem n49n_bx0 (x : q8T) : exec G7 ⟨0, 27, n49n_loops⟩ (loopBody Try.f46 0) (bodyK ⟨0, 27, n49n_loops⟩ [0, 1, 4, 5] []) (setEs (deads 27) [0, 1, 4, 5] (n49n_v0 x)) (n49n_s0 x) = n49n_b0 x (Sum.elim (fun y => some ⟨.norm, n49n_v0 y, n49n_s0 y⟩) fun z => some ⟨(n49n_e0 z).1, (n49n_e0 z).2.1, (n49n_e0 z).2.2⟩) := by
  kernel_rfl

theorem n49n_lo0 : ∀ sp, (n49n_loops 0) = some sp → LoopOk G7 ⟨0, 27, n49n_loops⟩ sp (loopBody Try.f46 0) := by
  intro sp hsp vals st k r h
  cases hsp
  dsimp only at h
  rcases onPats_inv2 h with ⟨p, q, rfl, rfl, h⟩ | h
  · exact loop_runs2 n49n_bp0 n49n_v0 n49n_s0 n49n_e0 (fun z => by rcases z with z | z <;> (intro h; cases h)) n49n_bx0 Fuel (p.1, p.2.1, p.2.2.1, p.2.2.2.1) _ k r (fun z => by rcases z with z | z <;> rfl) h
  cases h

theorem n49n_y (a0 : (List dTxn)) (a1 : Int) : execFn G7 n49n_loops Try.f46 [.lst tTxn a0, .int .i64 a1] [] = n49n_k a0 a1 (fun (y : Int) => some ⟨.ret, [.int .i64 y], []⟩) := by rw [n49n_e]; kernel_rfl

theorem n49n_l : LoopsOk G7 ⟨0, 27, n49n_loops⟩ (Try.f46.body.getD .skip) :=
  loopsOk_of (ids := [0]) (by kernel_rfl) (by kernel_rfl) ⟨n49n_lo0, trivial⟩

theorem n49n_c : Contract Try.prog 46 n49n_g := by
  refine told G7_ok follows Try.func46 (c := Try.f46.body.getD .skip) (by kernel_rfl) ?_
  intro args s k r hk
  unfold n49n_g at hk
  rcases onPats_inv hk with ⟨p, q, rfl, rfl⟩ | hk
  · exact ⟨n49n_loops, n49n_q p.1 p.2.1, n49n_y p.1 p.2.1, n49n_l⟩
  cases hk

def G8 : Glob := G7.add 46 n49n_g

theorem G8_ok : GlobOk Try.prog G8 := G7_ok.add ⟨Try.f46, Try.func46, by kernel_rfl, by kernel_rfl⟩ n49n_c



def n44n_loops : Nat → Option LoopSpec
  | _ => none

theorem n44n_y (a0 : (List dVersion)) (a1 : (List dTxn)) (a2 : (List dTxn)) (a3 : Int) (a4 : Int) (a5 : Int) : execFn G8 n44n_loops Try.f45 [.agg [.lst tVersion a0, .lst tTxn a1, .lst tTxn a2, .int .i64 a3, .int .i64 a4], .int .i64 a5] [] = n44n_k (a0, (a1, (a2, (a3, a4)))) a5 (fun (y : Int) => some ⟨.ret, [.int .i64 y], []⟩) := by rw [n44n_e]; kernel_rfl

theorem n44n_l : LoopsOk G8 ⟨0, 24, n44n_loops⟩ (Try.f45.body.getD .skip) :=
  loopsOk_of (ids := []) (by kernel_rfl) (by kernel_rfl) trivial

theorem n44n_c : Contract Try.prog 45 n44n_g := by
  refine told G8_ok follows Try.func45 (c := Try.f45.body.getD .skip) (by kernel_rfl) ?_
  intro args s k r hk
  unfold n44n_g at hk
  rcases onPats_inv hk with ⟨p, q, rfl, rfl⟩ | hk
  · exact ⟨n44n_loops, n44n_q p.1.1 p.1.2.1 p.1.2.2.1 p.1.2.2.2.1 p.1.2.2.2.2.1 p.2.1, n44n_y p.1.1 p.1.2.1 p.1.2.2.1 p.1.2.2.2.1 p.1.2.2.2.2.1 p.2.1, n44n_l⟩
  cases hk

def G9 : Glob := G8.add 45 n44n_g

theorem G9_ok : GlobOk Try.prog G9 := G8_ok.add ⟨Try.f45, Try.func45, by kernel_rfl, by kernel_rfl⟩ n44n_c



def n45n_loops : Nat → Option LoopSpec
  | _ => none

theorem n45n_y (a0 : (List dVersion)) (a1 : (List dTxn)) (a2 : (List dTxn)) (a3 : Int) (a4 : Int) (a5 : (List dTxn)) (a6 : Int) : execFn G9 n45n_loops Try.f23 [.agg [.lst tVersion a0, .lst tTxn a1, .lst tTxn a2, .int .i64 a3, .int .i64 a4, .lst tTxn a5], .int .i64 a6] [] = n45n_k ((a0, (a1, (a2, (a3, a4)))), a5) a6 (fun (y : Int) => some ⟨.ret, [.int .i64 y], []⟩) := by rw [n45n_e]; kernel_rfl

theorem n45n_l : LoopsOk G9 ⟨0, 18, n45n_loops⟩ (Try.f23.body.getD .skip) :=
  loopsOk_of (ids := []) (by kernel_rfl) (by kernel_rfl) trivial

theorem n45n_c : Contract Try.prog 23 n45n_g := by
  refine told G9_ok follows Try.func23 (c := Try.f23.body.getD .skip) (by kernel_rfl) ?_
  intro args s k r hk
  unfold n45n_g at hk
  rcases onPats_inv hk with ⟨p, q, rfl, rfl⟩ | hk
  · exact ⟨n45n_loops, n45n_q p.1.1 p.1.2.1 p.1.2.2.1 p.1.2.2.2.1 p.1.2.2.2.2.1 p.1.2.2.2.2.2.1 p.2.1, n45n_y p.1.1 p.1.2.1 p.1.2.2.1 p.1.2.2.2.1 p.1.2.2.2.2.1 p.1.2.2.2.2.2.1 p.2.1, n45n_l⟩
  cases hk

def G10 : Glob := G9.add 23 n45n_g

theorem G10_ok : GlobOk Try.prog G10 := G9_ok.add ⟨Try.f23, Try.func23, by kernel_rfl, by kernel_rfl⟩ n45n_c



def n60n_loops : Nat → Option LoopSpec
  | _ => none

theorem n60n_y (a0 : ByteArray) (a1 : ByteArray) (a2 : Bool) (a3 : Int) : execFn G10 n60n_loops Try.f194 [.agg [.str a0, .str a1, .bool a2, .int .i64 a3]] [] = n60n_k (a0, (a1, (a2, a3))) (fun (y : q30T) => some ⟨.ret, [.agg [.str y.1, .str y.2.1, .bool y.2.2.1, .int .i64 y.2.2.2]], []⟩) := by rw [n60n_e]; kernel_rfl

theorem n60n_l : LoopsOk G10 ⟨0, 17, n60n_loops⟩ (Try.f194.body.getD .skip) :=
  loopsOk_of (ids := []) (by kernel_rfl) (by kernel_rfl) trivial

theorem n60n_c : Contract Try.prog 194 n60n_g := by
  refine told G10_ok follows Try.func194 (c := Try.f194.body.getD .skip) (by kernel_rfl) ?_
  intro args s k r hk
  unfold n60n_g at hk
  rcases onPats_inv hk with ⟨p, q, rfl, rfl⟩ | hk
  · exact ⟨n60n_loops, n60n_q p.1.1 p.1.2.1 p.1.2.2.1 p.1.2.2.2.1, n60n_y p.1.1 p.1.2.1 p.1.2.2.1 p.1.2.2.2.1, n60n_l⟩
  cases hk

def G11 : Glob := G10.add 194 n60n_g

theorem G11_ok : GlobOk Try.prog G11 := G10_ok.add ⟨Try.f194, Try.func194, by kernel_rfl, by kernel_rfl⟩ n60n_c



def n61n_loops : Nat → Option LoopSpec
  | 0 => some ⟨[0, 3, 4], [], fun vals st k => onPats [.lst tVersion, .own 0, .int .i64] [.arr tVersion] vals st (fun p q => loopK n61n_b0 Fuel (p.1, p.2.2.1, q.1) (fun z => k (.exit 0) [.lst tVersion z.1, .own 0, .int .i64 z.2.1] [.arr tVersion z.2.2]))
      (none)⟩
  | _ => none

def n61n_v0 : q13T → List AV := (fun x => [.lst tVersion x.1, .own 0, .int .i64 x.2.1])
def n61n_s0 : q13T → St := (fun x => [.arr tVersion x.2.2])
def n61n_e0 : q13T → Out × List AV × St := (fun z => ((.exit 0), [.lst tVersion z.1, .own 0, .int .i64 z.2.1], [.arr tVersion z.2.2]))

theorem n61n_bx0 (x : q13T) : exec G11 ⟨0, 23, n61n_loops⟩ (loopBody Try.f115 0) (bodyK ⟨0, 23, n61n_loops⟩ [0, 3, 4] []) (setEs (deads 23) [0, 3, 4] (n61n_v0 x)) (n61n_s0 x) = n61n_b0 x (Sum.elim (fun y => some ⟨.norm, n61n_v0 y, n61n_s0 y⟩) fun z => some ⟨(n61n_e0 z).1, (n61n_e0 z).2.1, (n61n_e0 z).2.2⟩) := by
  kernel_rfl

theorem n61n_lo0 : ∀ sp, (n61n_loops 0) = some sp → LoopOk G11 ⟨0, 23, n61n_loops⟩ sp (loopBody Try.f115 0) := by
  intro sp hsp vals st k r h
  cases hsp
  dsimp only at h
  rcases onPats_inv2 h with ⟨p, q, rfl, rfl, h⟩ | h
  · exact loop_runs2 n61n_bp0 n61n_v0 n61n_s0 n61n_e0 (fun z => by (intro h; cases h)) n61n_bx0 Fuel (p.1, p.2.2.1, q.1) _ k r (fun z => rfl) h
  cases h

theorem n61n_y (a0 : (List dVersion)) : execFn G11 n61n_loops Try.f115 [.lst tVersion a0] [] = n61n_k a0 (fun (y : (List dVersion)) => some ⟨.ret, [.own 0], [.arr tVersion y]⟩) := by rw [n61n_e]; kernel_rfl

theorem n61n_l : LoopsOk G11 ⟨0, 23, n61n_loops⟩ (Try.f115.body.getD .skip) :=
  loopsOk_of (ids := [0]) (by kernel_rfl) (by kernel_rfl) ⟨n61n_lo0, trivial⟩

theorem n61n_c : Contract Try.prog 115 n61n_g := by
  refine told G11_ok follows Try.func115 (c := Try.f115.body.getD .skip) (by kernel_rfl) ?_
  intro args s k r hk
  unfold n61n_g at hk
  rcases onPats_inv hk with ⟨p, q, rfl, rfl⟩ | hk
  · exact ⟨n61n_loops, n61n_q p.1, n61n_y p.1, n61n_l⟩
  cases hk

def G12 : Glob := G11.add 115 n61n_g

theorem G12_ok : GlobOk Try.prog G12 := G11_ok.add ⟨Try.f115, Try.func115, by kernel_rfl, by kernel_rfl⟩ n61n_c



def n56n_loops : Nat → Option LoopSpec
  | _ => none

theorem n56n_y (a0 : ByteArray) (a1 : ByteArray) : execFn G12 n56n_loops Try.f248 [.agg [.str a0, .str a1]] [] = n56n_k (a0, a1) (fun (y : (ByteArray × ByteArray)) => some ⟨.ret, [.agg [.str y.1, .str y.2]], []⟩) := by rw [n56n_e]; kernel_rfl

theorem n56n_l : LoopsOk G12 ⟨0, 11, n56n_loops⟩ (Try.f248.body.getD .skip) :=
  loopsOk_of (ids := []) (by kernel_rfl) (by kernel_rfl) trivial

theorem n56n_c : Contract Try.prog 248 n56n_g := by
  refine told G12_ok follows Try.func248 (c := Try.f248.body.getD .skip) (by kernel_rfl) ?_
  intro args s k r hk
  unfold n56n_g at hk
  rcases onPats_inv hk with ⟨p, q, rfl, rfl⟩ | hk
  · exact ⟨n56n_loops, n56n_q p.1.1 p.1.2.1, n56n_y p.1.1 p.1.2.1, n56n_l⟩
  cases hk

def G13 : Glob := G12.add 248 n56n_g

theorem G13_ok : GlobOk Try.prog G13 := G12_ok.add ⟨Try.f248, Try.func248, by kernel_rfl, by kernel_rfl⟩ n56n_c



def n57n_loops : Nat → Option LoopSpec
  | 0 => some ⟨[0, 3, 4], [], fun vals st k => onPats [.lst tRange, .own 0, .int .i64] [.arr tRange] vals st (fun p q => loopK n57n_b0 Fuel (p.1, p.2.2.1, q.1) (fun z => k (.exit 0) [.lst tRange z.1, .own 0, .int .i64 z.2.1] [.arr tRange z.2.2]))
      (none)⟩
  | _ => none

def n57n_v0 : q1T → List AV := (fun x => [.lst tRange x.1, .own 0, .int .i64 x.2.1])
def n57n_s0 : q1T → St := (fun x => [.arr tRange x.2.2])
def n57n_e0 : q1T → Out × List AV × St := (fun z => ((.exit 0), [.lst tRange z.1, .own 0, .int .i64 z.2.1], [.arr tRange z.2.2]))

theorem n57n_bx0 (x : q1T) : exec G13 ⟨0, 23, n57n_loops⟩ (loopBody Try.f182 0) (bodyK ⟨0, 23, n57n_loops⟩ [0, 3, 4] []) (setEs (deads 23) [0, 3, 4] (n57n_v0 x)) (n57n_s0 x) = n57n_b0 x (Sum.elim (fun y => some ⟨.norm, n57n_v0 y, n57n_s0 y⟩) fun z => some ⟨(n57n_e0 z).1, (n57n_e0 z).2.1, (n57n_e0 z).2.2⟩) := by
  kernel_rfl

theorem n57n_lo0 : ∀ sp, (n57n_loops 0) = some sp → LoopOk G13 ⟨0, 23, n57n_loops⟩ sp (loopBody Try.f182 0) := by
  intro sp hsp vals st k r h
  cases hsp
  dsimp only at h
  rcases onPats_inv2 h with ⟨p, q, rfl, rfl, h⟩ | h
  · exact loop_runs2 n57n_bp0 n57n_v0 n57n_s0 n57n_e0 (fun z => by (intro h; cases h)) n57n_bx0 Fuel (p.1, p.2.2.1, q.1) _ k r (fun z => rfl) h
  cases h

theorem n57n_y (a0 : (List dRange)) : execFn G13 n57n_loops Try.f182 [.lst tRange a0] [] = n57n_k a0 (fun (y : (List dRange)) => some ⟨.ret, [.own 0], [.arr tRange y]⟩) := by rw [n57n_e]; kernel_rfl

theorem n57n_l : LoopsOk G13 ⟨0, 23, n57n_loops⟩ (Try.f182.body.getD .skip) :=
  loopsOk_of (ids := [0]) (by kernel_rfl) (by kernel_rfl) ⟨n57n_lo0, trivial⟩

theorem n57n_c : Contract Try.prog 182 n57n_g := by
  refine told G13_ok follows Try.func182 (c := Try.f182.body.getD .skip) (by kernel_rfl) ?_
  intro args s k r hk
  unfold n57n_g at hk
  rcases onPats_inv hk with ⟨p, q, rfl, rfl⟩ | hk
  · exact ⟨n57n_loops, n57n_q p.1, n57n_y p.1, n57n_l⟩
  cases hk

def G14 : Glob := G13.add 182 n57n_g

theorem G14_ok : GlobOk Try.prog G14 := G13_ok.add ⟨Try.f182, Try.func182, by kernel_rfl, by kernel_rfl⟩ n57n_c



def n62n_loops : Nat → Option LoopSpec
  | _ => none

theorem n62n_y (a0 : ByteArray) (a1 : ByteArray) (a2 : Bool) : execFn G14 n62n_loops Try.f249 [.agg [.str a0, .str a1, .bool a2]] [] = n62n_k (a0, (a1, a2)) (fun (y : (ByteArray × ByteArray × Bool)) => some ⟨.ret, [.agg [.str y.1, .str y.2.1, .bool y.2.2]], []⟩) := by rw [n62n_e]; kernel_rfl

theorem n62n_l : LoopsOk G14 ⟨0, 14, n62n_loops⟩ (Try.f249.body.getD .skip) :=
  loopsOk_of (ids := []) (by kernel_rfl) (by kernel_rfl) trivial

theorem n62n_c : Contract Try.prog 249 n62n_g := by
  refine told G14_ok follows Try.func249 (c := Try.f249.body.getD .skip) (by kernel_rfl) ?_
  intro args s k r hk
  unfold n62n_g at hk
  rcases onPats_inv hk with ⟨p, q, rfl, rfl⟩ | hk
  · exact ⟨n62n_loops, n62n_q p.1.1 p.1.2.1 p.1.2.2.1, n62n_y p.1.1 p.1.2.1 p.1.2.2.1, n62n_l⟩
  cases hk

def G15 : Glob := G14.add 249 n62n_g

theorem G15_ok : GlobOk Try.prog G15 := G14_ok.add ⟨Try.f249, Try.func249, by kernel_rfl, by kernel_rfl⟩ n62n_c



def n63n_loops : Nat → Option LoopSpec
  | 0 => some ⟨[0, 3, 4], [], fun vals st k => onPats [.lst tWrite, .own 0, .int .i64] [.arr tWrite] vals st (fun p q => loopK n63n_b0 Fuel (p.1, p.2.2.1, q.1) (fun z => k (.exit 0) [.lst tWrite z.1, .own 0, .int .i64 z.2.1] [.arr tWrite z.2.2]))
      (none)⟩
  | _ => none

def n63n_v0 : q17T → List AV := (fun x => [.lst tWrite x.1, .own 0, .int .i64 x.2.1])
def n63n_s0 : q17T → St := (fun x => [.arr tWrite x.2.2])
def n63n_e0 : q17T → Out × List AV × St := (fun z => ((.exit 0), [.lst tWrite z.1, .own 0, .int .i64 z.2.1], [.arr tWrite z.2.2]))

theorem n63n_bx0 (x : q17T) : exec G15 ⟨0, 23, n63n_loops⟩ (loopBody Try.f183 0) (bodyK ⟨0, 23, n63n_loops⟩ [0, 3, 4] []) (setEs (deads 23) [0, 3, 4] (n63n_v0 x)) (n63n_s0 x) = n63n_b0 x (Sum.elim (fun y => some ⟨.norm, n63n_v0 y, n63n_s0 y⟩) fun z => some ⟨(n63n_e0 z).1, (n63n_e0 z).2.1, (n63n_e0 z).2.2⟩) := by
  kernel_rfl

theorem n63n_lo0 : ∀ sp, (n63n_loops 0) = some sp → LoopOk G15 ⟨0, 23, n63n_loops⟩ sp (loopBody Try.f183 0) := by
  intro sp hsp vals st k r h
  cases hsp
  dsimp only at h
  rcases onPats_inv2 h with ⟨p, q, rfl, rfl, h⟩ | h
  · exact loop_runs2 n63n_bp0 n63n_v0 n63n_s0 n63n_e0 (fun z => by (intro h; cases h)) n63n_bx0 Fuel (p.1, p.2.2.1, q.1) _ k r (fun z => rfl) h
  cases h

theorem n63n_y (a0 : (List dWrite)) : execFn G15 n63n_loops Try.f183 [.lst tWrite a0] [] = n63n_k a0 (fun (y : (List dWrite)) => some ⟨.ret, [.own 0], [.arr tWrite y]⟩) := by rw [n63n_e]; kernel_rfl

theorem n63n_l : LoopsOk G15 ⟨0, 23, n63n_loops⟩ (Try.f183.body.getD .skip) :=
  loopsOk_of (ids := [0]) (by kernel_rfl) (by kernel_rfl) ⟨n63n_lo0, trivial⟩

theorem n63n_c : Contract Try.prog 183 n63n_g := by
  refine told G15_ok follows Try.func183 (c := Try.f183.body.getD .skip) (by kernel_rfl) ?_
  intro args s k r hk
  unfold n63n_g at hk
  rcases onPats_inv hk with ⟨p, q, rfl, rfl⟩ | hk
  · exact ⟨n63n_loops, n63n_q p.1, n63n_y p.1, n63n_l⟩
  cases hk

def G16 : Glob := G15.add 183 n63n_g

theorem G16_ok : GlobOk Try.prog G16 := G15_ok.add ⟨Try.f183, Try.func183, by kernel_rfl, by kernel_rfl⟩ n63n_c



def n58n_loops : Nat → Option LoopSpec
  | _ => none

theorem n58n_y (a0 : Int) (a1 : Int) (a2 : Int) (a3 : Int) (a4 : (List dRange)) (a5 : (List dWrite)) (a6 : Bool) (a7 : ByteArray) : execFn G16 n58n_loops Try.f98 [.agg [.int .i64 a0, .int .i64 a1, .int .i64 a2, .int .i64 a3, .lst tRange a4, .lst tWrite a5, .bool a6, .str a7]] [] = n58n_k (a0, (a1, (a2, (a3, (a4, (a5, (a6, a7))))))) (fun (y : q40T) => some ⟨.ret, [.agg [.int .i64 y.1, .int .i64 y.2.1, .int .i64 y.2.2.1, .int .i64 y.2.2.2.1, .own 0, .own 1, .bool y.2.2.2.2.1, .str y.2.2.2.2.2.1]], [.arr tRange y.2.2.2.2.2.2.1, .arr tWrite y.2.2.2.2.2.2.2]⟩) := by rw [n58n_e]; kernel_rfl

theorem n58n_l : LoopsOk G16 ⟨0, 31, n58n_loops⟩ (Try.f98.body.getD .skip) :=
  loopsOk_of (ids := []) (by kernel_rfl) (by kernel_rfl) trivial

theorem n58n_c : Contract Try.prog 98 n58n_g := by
  refine told G16_ok follows Try.func98 (c := Try.f98.body.getD .skip) (by kernel_rfl) ?_
  intro args s k r hk
  unfold n58n_g at hk
  rcases onPats_inv hk with ⟨p, q, rfl, rfl⟩ | hk
  · exact ⟨n58n_loops, n58n_q p.1.1 p.1.2.1 p.1.2.2.1 p.1.2.2.2.1 p.1.2.2.2.2.1 p.1.2.2.2.2.2.1 p.1.2.2.2.2.2.2.1 p.1.2.2.2.2.2.2.2.1, n58n_y p.1.1 p.1.2.1 p.1.2.2.1 p.1.2.2.2.1 p.1.2.2.2.2.1 p.1.2.2.2.2.2.1 p.1.2.2.2.2.2.2.1 p.1.2.2.2.2.2.2.2.1, n58n_l⟩
  cases hk

def G17 : Glob := G16.add 98 n58n_g

theorem G17_ok : GlobOk Try.prog G17 := G16_ok.add ⟨Try.f98, Try.func98, by kernel_rfl, by kernel_rfl⟩ n58n_c



def n59n_loops : Nat → Option LoopSpec
  | 0 => some ⟨[0, 3, 4], [], fun vals st k => onPats [.lst tTxn, .own 0, .int .i64] [.dep tTxn 0] vals st (fun p q => loopK n59n_b0 Fuel (p.1, p.2.2.1, q.1) (fun z => k (.exit 0) [.lst tTxn z.1, .own 0, .int .i64 z.2.1] [.dep tTxn z.2.2 0]))
      (none)⟩
  | _ => none

def n59n_v0 : q5T → List AV := (fun x => [.lst tTxn x.1, .own 0, .int .i64 x.2.1])
def n59n_s0 : q5T → St := (fun x => [.dep tTxn x.2.2 0])
def n59n_e0 : q5T → Out × List AV × St := (fun z => ((.exit 0), [.lst tTxn z.1, .own 0, .int .i64 z.2.1], [.dep tTxn z.2.2 0]))

theorem n59n_bx0 (x : q5T) : exec G17 ⟨0, 23, n59n_loops⟩ (loopBody Try.f49 0) (bodyK ⟨0, 23, n59n_loops⟩ [0, 3, 4] []) (setEs (deads 23) [0, 3, 4] (n59n_v0 x)) (n59n_s0 x) = n59n_b0 x (Sum.elim (fun y => some ⟨.norm, n59n_v0 y, n59n_s0 y⟩) fun z => some ⟨(n59n_e0 z).1, (n59n_e0 z).2.1, (n59n_e0 z).2.2⟩) := by
  kernel_rfl

theorem n59n_lo0 : ∀ sp, (n59n_loops 0) = some sp → LoopOk G17 ⟨0, 23, n59n_loops⟩ sp (loopBody Try.f49 0) := by
  intro sp hsp vals st k r h
  cases hsp
  dsimp only at h
  rcases onPats_inv2 h with ⟨p, q, rfl, rfl, h⟩ | h
  · exact loop_runs2 n59n_bp0 n59n_v0 n59n_s0 n59n_e0 (fun z => by (intro h; cases h)) n59n_bx0 Fuel (p.1, p.2.2.1, q.1) _ k r (fun z => rfl) h
  cases h

theorem n59n_y (a0 : (List dTxn)) : execFn G17 n59n_loops Try.f49 [.lst tTxn a0] [] = n59n_k a0 (fun (y : (List dTxn)) => some ⟨.ret, [.own 0], [.dep tTxn y 0]⟩) := by rw [n59n_e]; kernel_rfl

theorem n59n_l : LoopsOk G17 ⟨0, 23, n59n_loops⟩ (Try.f49.body.getD .skip) :=
  loopsOk_of (ids := [0]) (by kernel_rfl) (by kernel_rfl) ⟨n59n_lo0, trivial⟩

theorem n59n_c : Contract Try.prog 49 n59n_g := by
  refine told G17_ok follows Try.func49 (c := Try.f49.body.getD .skip) (by kernel_rfl) ?_
  intro args s k r hk
  unfold n59n_g at hk
  rcases onPats_inv hk with ⟨p, q, rfl, rfl⟩ | hk
  · exact ⟨n59n_loops, n59n_q p.1, n59n_y p.1, n59n_l⟩
  cases hk

def G18 : Glob := G17.add 49 n59n_g

theorem G18_ok : GlobOk Try.prog G18 := G17_ok.add ⟨Try.f49, Try.func49, by kernel_rfl, by kernel_rfl⟩ n59n_c



def n54n_loops : Nat → Option LoopSpec
  | _ => none

theorem n54n_y (a0 : (List dVersion)) (a1 : (List dTxn)) (a2 : (List dTxn)) (a3 : Int) (a4 : Int) : execFn G18 n54n_loops Try.f48 [.agg [.lst tVersion a0, .lst tTxn a1, .lst tTxn a2, .int .i64 a3, .int .i64 a4]] [] = n54n_k (a0, (a1, (a2, (a3, a4)))) (fun (y : q36T) => some ⟨.ret, [.agg [.own 0, .own 1, .own 2, .int .i64 y.1, .int .i64 y.2.1]], [.arr tVersion y.2.2.1, .dep tTxn y.2.2.2.1 0, .dep tTxn y.2.2.2.2 0]⟩) := by rw [n54n_e]; kernel_rfl

theorem n54n_l : LoopsOk G18 ⟨0, 23, n54n_loops⟩ (Try.f48.body.getD .skip) :=
  loopsOk_of (ids := []) (by kernel_rfl) (by kernel_rfl) trivial

theorem n54n_c : Contract Try.prog 48 n54n_g := by
  refine told G18_ok follows Try.func48 (c := Try.f48.body.getD .skip) (by kernel_rfl) ?_
  intro args s k r hk
  unfold n54n_g at hk
  rcases onPats_inv hk with ⟨p, q, rfl, rfl⟩ | hk
  · exact ⟨n54n_loops, n54n_q p.1.1 p.1.2.1 p.1.2.2.1 p.1.2.2.2.1 p.1.2.2.2.2.1, n54n_y p.1.1 p.1.2.1 p.1.2.2.1 p.1.2.2.2.1 p.1.2.2.2.2.1, n54n_l⟩
  cases hk

def G19 : Glob := G18.add 48 n54n_g

theorem G19_ok : GlobOk Try.prog G19 := G18_ok.add ⟨Try.f48, Try.func48, by kernel_rfl, by kernel_rfl⟩ n54n_c



def n55n_loops : Nat → Option LoopSpec
  | _ => none

theorem n55n_y (a0 : (List dVersion)) (a1 : (List dTxn)) (a2 : (List dTxn)) (a3 : Int) (a4 : Int) (a5 : (List dTxn)) : execFn G19 n55n_loops Try.f25 [.agg [.lst tVersion a0, .lst tTxn a1, .lst tTxn a2, .int .i64 a3, .int .i64 a4, .lst tTxn a5]] [] = n55n_k ((a0, (a1, (a2, (a3, a4)))), a5) (fun (y : q35T) => some ⟨.ret, [.agg [.own 0, .own 1, .own 2, .int .i64 y.1, .int .i64 y.2.1, .own 3]], [.arr tVersion y.2.2.1, .dep tTxn y.2.2.2.1 0, .dep tTxn y.2.2.2.2.1 0, .dep tTxn y.2.2.2.2.2 0]⟩) := by rw [n55n_e]; kernel_rfl

theorem n55n_l : LoopsOk G19 ⟨0, 13, n55n_loops⟩ (Try.f25.body.getD .skip) :=
  loopsOk_of (ids := []) (by kernel_rfl) (by kernel_rfl) trivial

theorem n55n_c : Contract Try.prog 25 n55n_g := by
  refine told G19_ok follows Try.func25 (c := Try.f25.body.getD .skip) (by kernel_rfl) ?_
  intro args s k r hk
  unfold n55n_g at hk
  rcases onPats_inv hk with ⟨p, q, rfl, rfl⟩ | hk
  · exact ⟨n55n_loops, n55n_q p.1.1 p.1.2.1 p.1.2.2.1 p.1.2.2.2.1 p.1.2.2.2.2.1 p.1.2.2.2.2.2.1, n55n_y p.1.1 p.1.2.1 p.1.2.2.1 p.1.2.2.2.1 p.1.2.2.2.2.1 p.1.2.2.2.2.2.1, n55n_l⟩
  cases hk

def G20 : Glob := G19.add 25 n55n_g

theorem G20_ok : GlobOk Try.prog G20 := G19_ok.add ⟨Try.f25, Try.func25, by kernel_rfl, by kernel_rfl⟩ n55n_c



def n80n_loops : Nat → Option LoopSpec
  | _ => none

theorem n80n_y (a0 : Int) (a1 : Int) (a2 : Int) (a3 : Int) (a4 : (List dRange)) (a5 : (List dWrite)) (a6 : Bool) (a7 : ByteArray) : execFn G20.shallow n80n_loops Try.f113 [.agg [.int .i64 a0, .int .i64 a1, .int .i64 a2, .int .i64 a3, .lst tRange a4, .lst tWrite a5, .bool a6, .str a7]] [] = n80n_k (a0, (a1, (a2, (a3, (a4, (a5, (a6, a7))))))) (fun (y : q40T) => some ⟨.ret, [.agg [.int .i64 y.1, .int .i64 y.2.1, .int .i64 y.2.2.1, .int .i64 y.2.2.2.1, .own 0, .own 1, .bool y.2.2.2.2.1, .str y.2.2.2.2.2.1]], [.arr tRange y.2.2.2.2.2.2.1, .arr tWrite y.2.2.2.2.2.2.2]⟩) := by rw [n80n_e]; kernel_rfl

theorem n80n_l : LoopsOk G20.shallow ⟨0, 16, n80n_loops⟩ (Try.f113.body.getD .skip) :=
  loopsOk_of (ids := []) (by kernel_rfl) (by kernel_rfl) trivial

theorem n80n_c : Contract Try.prog 113 n80n_g := by
  refine told G20_ok.shallow follows Try.func113 (c := Try.f113.body.getD .skip) (by kernel_rfl) ?_
  intro args s k r hk
  unfold n80n_g at hk
  rcases onPats_inv hk with ⟨p, q, rfl, rfl⟩ | hk
  · exact ⟨n80n_loops, n80n_q p.1.1 p.1.2.1 p.1.2.2.1 p.1.2.2.2.1 p.1.2.2.2.2.1 p.1.2.2.2.2.2.1 p.1.2.2.2.2.2.2.1 p.1.2.2.2.2.2.2.2.1, n80n_y p.1.1 p.1.2.1 p.1.2.2.1 p.1.2.2.2.1 p.1.2.2.2.2.1 p.1.2.2.2.2.2.1 p.1.2.2.2.2.2.2.1 p.1.2.2.2.2.2.2.2.1, n80n_l⟩
  cases hk

def G21 : Glob := G20.add 113 n80n_g

theorem G21_ok : GlobOk Try.prog G21 := G20_ok.add ⟨Try.f113, Try.func113, by kernel_rfl, by kernel_rfl⟩ n80n_c



def n82n_loops : Nat → Option LoopSpec
  | 0 => some ⟨[0, 3, 4], [], fun vals st k => onPats [.lst tTxn, .own 0, .int .i64] [.arr tTxn] vals st (fun p q => loopK n82n_b0 Fuel (p.1, p.2.2.1, q.1) (fun z => k (.exit 0) [.lst tTxn z.1, .own 0, .int .i64 z.2.1] [.arr tTxn z.2.2]))
      (none)⟩
  | _ => none

def n82n_v0 : q5T → List AV := (fun x => [.lst tTxn x.1, .own 0, .int .i64 x.2.1])
def n82n_s0 : q5T → St := (fun x => [.arr tTxn x.2.2])
def n82n_e0 : q5T → Out × List AV × St := (fun z => ((.exit 0), [.lst tTxn z.1, .own 0, .int .i64 z.2.1], [.arr tTxn z.2.2]))

theorem n82n_bx0 (x : q5T) : exec G21.shallow ⟨0, 21, n82n_loops⟩ (loopBody Try.f193 0) (bodyK ⟨0, 21, n82n_loops⟩ [0, 3, 4] []) (setEs (deads 21) [0, 3, 4] (n82n_v0 x)) (n82n_s0 x) = n82n_b0 x (Sum.elim (fun y => some ⟨.norm, n82n_v0 y, n82n_s0 y⟩) fun z => some ⟨(n82n_e0 z).1, (n82n_e0 z).2.1, (n82n_e0 z).2.2⟩) := by
  kernel_rfl

theorem n82n_lo0 : ∀ sp, (n82n_loops 0) = some sp → LoopOk G21.shallow ⟨0, 21, n82n_loops⟩ sp (loopBody Try.f193 0) := by
  intro sp hsp vals st k r h
  cases hsp
  dsimp only at h
  rcases onPats_inv2 h with ⟨p, q, rfl, rfl, h⟩ | h
  · exact loop_runs2 n82n_bp0 n82n_v0 n82n_s0 n82n_e0 (fun z => by (intro h; cases h)) n82n_bx0 Fuel (p.1, p.2.2.1, q.1) _ k r (fun z => rfl) h
  cases h

theorem n82n_y (a0 : (List dTxn)) : execFn G21.shallow n82n_loops Try.f193 [.lst tTxn a0] [] = n82n_k a0 (fun (y : (List dTxn)) => some ⟨.ret, [.own 0], [.arr tTxn y]⟩) := by rw [n82n_e]; kernel_rfl

theorem n82n_l : LoopsOk G21.shallow ⟨0, 21, n82n_loops⟩ (Try.f193.body.getD .skip) :=
  loopsOk_of (ids := [0]) (by kernel_rfl) (by kernel_rfl) ⟨n82n_lo0, trivial⟩

theorem n82n_c : Contract Try.prog 193 n82n_g := by
  refine told G21_ok.shallow follows Try.func193 (c := Try.f193.body.getD .skip) (by kernel_rfl) ?_
  intro args s k r hk
  unfold n82n_g at hk
  rcases onPats_inv hk with ⟨p, q, rfl, rfl⟩ | hk
  · exact ⟨n82n_loops, n82n_q p.1, n82n_y p.1, n82n_l⟩
  cases hk

def G22 : Glob := G21.add 193 n82n_g

theorem G22_ok : GlobOk Try.prog G22 := G21_ok.add ⟨Try.f193, Try.func193, by kernel_rfl, by kernel_rfl⟩ n82n_c



def n81n_loops : Nat → Option LoopSpec
  | 1000001 => some ⟨[2], [], fun _ _ _ => none⟩
  | _ => none

theorem n81n_y (a0 : (List dVersion)) (a1 : (List dTxn)) (a2 : (List dTxn)) (a3 : Int) (a4 : Int) : execFn G22.shallow n81n_loops Try.f111 [.agg [.lst tVersion a0, .lst tTxn a1, .lst tTxn a2, .int .i64 a3, .int .i64 a4]] [] = n81n_k (a0, (a1, (a2, (a3, a4)))) (fun (y : q36T) => some ⟨.ret, [.agg [.own 0, .own 1, .own 2, .int .i64 y.1, .int .i64 y.2.1]], [.arr tVersion y.2.2.1, .arr tTxn y.2.2.2.1, .arr tTxn y.2.2.2.2]⟩) := by rw [n81n_e]; kernel_rfl

theorem n81n_l : LoopsOk G22.shallow ⟨0, 18, n81n_loops⟩ (Try.f111.body.getD .skip) :=
  loopsOk_of (ids := []) (by kernel_rfl) (by kernel_rfl) trivial

theorem n81n_c : Contract Try.prog 111 n81n_g := by
  refine told G22_ok.shallow follows Try.func111 (c := Try.f111.body.getD .skip) (by kernel_rfl) ?_
  intro args s k r hk
  unfold n81n_g at hk
  rcases onPats_inv hk with ⟨p, q, rfl, rfl⟩ | hk
  · exact ⟨n81n_loops, n81n_q p.1.1 p.1.2.1 p.1.2.2.1 p.1.2.2.2.1 p.1.2.2.2.2.1, n81n_y p.1.1 p.1.2.1 p.1.2.2.1 p.1.2.2.2.1 p.1.2.2.2.2.1, n81n_l⟩
  cases hk

def G23 : Glob := G22.add 111 n81n_g

theorem G23_ok : GlobOk Try.prog G23 := G22_ok.add ⟨Try.f111, Try.func111, by kernel_rfl, by kernel_rfl⟩ n81n_c



def n83n_loops : Nat → Option LoopSpec
  | 2000001 => some ⟨[0, 2, 6, 8, 5, 11, 12, 14], [], fun _ _ _ => none⟩
  | _ => none

theorem n83n_y (a0 : (List dVersion)) (a1 : (List dTxn)) (a2 : (List dTxn)) (a3 : Int) (a4 : Int) (a5 : (List dTxn)) : execFn G23.shallow n83n_loops Try.f146 [.agg [.lst tVersion a0, .lst tTxn a1, .lst tTxn a2, .int .i64 a3, .int .i64 a4, .lst tTxn a5]] [] = n83n_k ((a0, (a1, (a2, (a3, a4)))), a5) (fun (y : q35T) => some ⟨.ret, [.agg [.own 0, .own 1, .own 2, .int .i64 y.1, .int .i64 y.2.1, .own 3]], [.arr tVersion y.2.2.1, .arr tTxn y.2.2.2.1, .arr tTxn y.2.2.2.2.1, .arr tTxn y.2.2.2.2.2]⟩) := by rw [n83n_e]; kernel_rfl

theorem n83n_l : LoopsOk G23.shallow ⟨0, 10, n83n_loops⟩ (Try.f146.body.getD .skip) :=
  loopsOk_of (ids := []) (by kernel_rfl) (by kernel_rfl) trivial

theorem n83n_c : Contract Try.prog 146 n83n_g := by
  refine told G23_ok.shallow follows Try.func146 (c := Try.f146.body.getD .skip) (by kernel_rfl) ?_
  intro args s k r hk
  unfold n83n_g at hk
  rcases onPats_inv hk with ⟨p, q, rfl, rfl⟩ | hk
  · exact ⟨n83n_loops, n83n_q p.1.1 p.1.2.1 p.1.2.2.1 p.1.2.2.2.1 p.1.2.2.2.2.1 p.1.2.2.2.2.2.1, n83n_y p.1.1 p.1.2.1 p.1.2.2.1 p.1.2.2.2.1 p.1.2.2.2.2.1 p.1.2.2.2.2.2.1, n83n_l⟩
  cases hk

def G24 : Glob := G23.add 146 n83n_g

theorem G24_ok : GlobOk Try.prog G24 := G23_ok.add ⟨Try.f146, Try.func146, by kernel_rfl, by kernel_rfl⟩ n83n_c



def n70n_loops : Nat → Option LoopSpec
  | 0 => some ⟨[1, 2, 4, 5], [], fun vals st k => onPats [.int .i64, .bp 0 0, .int .i64, .int .i64] [.box [.lst tVersion, .lst tTxn, .lst tTxn, .int .i64, .int .i64, .lst tTxn]] vals st (fun p q => loopK n70n_b0 Fuel (p.1, p.2.2.1, p.2.2.2.1, q.1.1, q.1.2.1, q.1.2.2.1, q.1.2.2.2.1, q.1.2.2.2.2.1, q.1.2.2.2.2.2.1) (Sum.elim (fun z => k .ret [.int .i64 z.1, .bp 0 0, .int .i64 z.2.1, .int .i64 z.2.2.1] [.box [.lst tVersion z.2.2.2.1, .lst tTxn z.2.2.2.2.1, .lst tTxn z.2.2.2.2.2.1, .int .i64 z.2.2.2.2.2.2.1, .int .i64 z.2.2.2.2.2.2.2.1, .lst tTxn z.2.2.2.2.2.2.2.2]]) (fun z => k (.exit 0) [.int .i64 z.1, .bp 0 0, .int .i64 z.2.1, .int .i64 z.2.2.1] [.box [.lst tVersion z.2.2.2.1, .lst tTxn z.2.2.2.2.1, .lst tTxn z.2.2.2.2.2.1, .int .i64 z.2.2.2.2.2.2.1, .int .i64 z.2.2.2.2.2.2.2.1, .lst tTxn z.2.2.2.2.2.2.2.2]])))
      (none)⟩
  | _ => none

def n70n_v0 : q38T → List AV := (fun x => [.int .i64 x.1, .bp 0 0, .int .i64 x.2.1, .int .i64 x.2.2.1])
def n70n_s0 : q38T → St := (fun x => [.box [.lst tVersion x.2.2.2.1, .lst tTxn x.2.2.2.2.1, .lst tTxn x.2.2.2.2.2.1, .int .i64 x.2.2.2.2.2.2.1, .int .i64 x.2.2.2.2.2.2.2.1, .lst tTxn x.2.2.2.2.2.2.2.2]])
def n70n_e0 : (q38T ⊕ q38T) → Out × List AV × St := (Sum.elim (fun z => (.ret, [.int .i64 z.1, .bp 0 0, .int .i64 z.2.1, .int .i64 z.2.2.1], [.box [.lst tVersion z.2.2.2.1, .lst tTxn z.2.2.2.2.1, .lst tTxn z.2.2.2.2.2.1, .int .i64 z.2.2.2.2.2.2.1, .int .i64 z.2.2.2.2.2.2.2.1, .lst tTxn z.2.2.2.2.2.2.2.2]])) (fun z => ((.exit 0), [.int .i64 z.1, .bp 0 0, .int .i64 z.2.1, .int .i64 z.2.2.1], [.box [.lst tVersion z.2.2.2.1, .lst tTxn z.2.2.2.2.1, .lst tTxn z.2.2.2.2.2.1, .int .i64 z.2.2.2.2.2.2.1, .int .i64 z.2.2.2.2.2.2.2.1, .lst tTxn z.2.2.2.2.2.2.2.2]])))

theorem n70n_bx0 (x : q38T) : exec G24.shallow ⟨0, 22, n70n_loops⟩ (loopBody Try.f147 0) (bodyK ⟨0, 22, n70n_loops⟩ [1, 2, 4, 5] []) (setEs (deads 22) [1, 2, 4, 5] (n70n_v0 x)) (n70n_s0 x) = n70n_b0 x (Sum.elim (fun y => some ⟨.norm, n70n_v0 y, n70n_s0 y⟩) fun z => some ⟨(n70n_e0 z).1, (n70n_e0 z).2.1, (n70n_e0 z).2.2⟩) := by
  kernel_rfl

theorem n70n_lo0 : ∀ sp, (n70n_loops 0) = some sp → LoopOk G24.shallow ⟨0, 22, n70n_loops⟩ sp (loopBody Try.f147 0) := by
  intro sp hsp vals st k r h
  cases hsp
  dsimp only at h
  rcases onPats_inv2 h with ⟨p, q, rfl, rfl, h⟩ | h
  · exact loop_runs2 n70n_bp0 n70n_v0 n70n_s0 n70n_e0 (fun z => by rcases z with z | z <;> (intro h; cases h)) n70n_bx0 Fuel (p.1, p.2.2.1, p.2.2.2.1, q.1.1, q.1.2.1, q.1.2.2.1, q.1.2.2.2.1, q.1.2.2.2.2.1, q.1.2.2.2.2.2.1) _ k r (fun z => by rcases z with z | z <;> rfl) h
  cases h

theorem n70n_y (a0 : (List dVersion)) (a1 : (List dTxn)) (a2 : (List dTxn)) (a3 : Int) (a4 : Int) (a5 : (List dTxn)) (a6 : Int) : execFn G24.shallow n70n_loops Try.f147 [.agg [.lst tVersion a0, .lst tTxn a1, .lst tTxn a2, .int .i64 a3, .int .i64 a4, .lst tTxn a5], .int .i64 a6] [] = n70n_k ((a0, (a1, (a2, (a3, a4)))), a5) a6 (fun (y : Int) => some ⟨.ret, [.int .i64 y], []⟩) := by rw [n70n_e]; kernel_rfl

theorem n70n_l : LoopsOk G24.shallow ⟨0, 22, n70n_loops⟩ (Try.f147.body.getD .skip) :=
  loopsOk_of (ids := [0]) (by kernel_rfl) (by kernel_rfl) ⟨n70n_lo0, trivial⟩

theorem n70n_c : Contract Try.prog 147 n70n_g := by
  refine told G24_ok.shallow follows Try.func147 (c := Try.f147.body.getD .skip) (by kernel_rfl) ?_
  intro args s k r hk
  unfold n70n_g at hk
  rcases onPats_inv hk with ⟨p, q, rfl, rfl⟩ | hk
  · exact ⟨n70n_loops, n70n_q p.1.1 p.1.2.1 p.1.2.2.1 p.1.2.2.2.1 p.1.2.2.2.2.1 p.1.2.2.2.2.2.1 p.2.1, n70n_y p.1.1 p.1.2.1 p.1.2.2.1 p.1.2.2.2.1 p.1.2.2.2.2.1 p.1.2.2.2.2.2.1 p.2.1, n70n_l⟩
  cases hk

def G25 : Glob := G24.add 147 n70n_g

theorem G25_ok : GlobOk Try.prog G25 := G24_ok.add ⟨Try.f147, Try.func147, by kernel_rfl, by kernel_rfl⟩ n70n_c



def n78n_loops : Nat → Option LoopSpec
  | _ => none

theorem n78n_y (a0 : Int) (a1 : Int) (a2 : Int) : execFn G25.shallow n78n_loops Try.f94 [.int .i64 a0, .int .i64 a1, .int .i64 a2] [] = n78n_k a0 a1 a2 (fun (y : Bool) => some ⟨.ret, [.bool y], []⟩) := by rw [n78n_e]; kernel_rfl

theorem n78n_l : LoopsOk G25.shallow ⟨0, 15, n78n_loops⟩ (Try.f94.body.getD .skip) :=
  loopsOk_of (ids := []) (by kernel_rfl) (by kernel_rfl) trivial

theorem n78n_c : Contract Try.prog 94 n78n_g := by
  refine told G25_ok.shallow follows Try.func94 (c := Try.f94.body.getD .skip) (by kernel_rfl) ?_
  intro args s k r hk
  unfold n78n_g at hk
  rcases onPats_inv hk with ⟨p, q, rfl, rfl⟩ | hk
  · exact ⟨n78n_loops, n78n_q p.1 p.2.1 p.2.2.1, n78n_y p.1 p.2.1 p.2.2.1, n78n_l⟩
  cases hk

def G26 : Glob := G25.add 94 n78n_g

theorem G26_ok : GlobOk Try.prog G26 := G25_ok.add ⟨Try.f94, Try.func94, by kernel_rfl, by kernel_rfl⟩ n78n_c



def n69n_loops : Nat → Option LoopSpec
  | 0 => some ⟨[0, 2, 3], [], fun vals st k => onPats [.str, .bool, .int .i64] [] vals st (fun p q => loopK n69n_b0 Fuel (p.1, p.2.1, p.2.2.1) (Sum.elim (fun z => k .ret [.str z.1, .bool z.2.1, .int .i64 z.2.2] []) (fun z => k (.exit 0) [.str z.1, .bool z.2.1, .int .i64 z.2.2] [])))
      (none)⟩
  | _ => none

def n69n_v0 : (ByteArray × Bool × Int) → List AV := (fun x => [.str x.1, .bool x.2.1, .int .i64 x.2.2])
def n69n_s0 : (ByteArray × Bool × Int) → St := (fun x => [])
def n69n_e0 : ((ByteArray × Bool × Int) ⊕ (ByteArray × Bool × Int)) → Out × List AV × St := (Sum.elim (fun z => (.ret, [.str z.1, .bool z.2.1, .int .i64 z.2.2], [])) (fun z => ((.exit 0), [.str z.1, .bool z.2.1, .int .i64 z.2.2], [])))

theorem n69n_bx0 (x : (ByteArray × Bool × Int)) : exec G26.shallow ⟨0, 23, n69n_loops⟩ (loopBody Try.f96 0) (bodyK ⟨0, 23, n69n_loops⟩ [0, 2, 3] []) (setEs (deads 23) [0, 2, 3] (n69n_v0 x)) (n69n_s0 x) = n69n_b0 x (Sum.elim (fun y => some ⟨.norm, n69n_v0 y, n69n_s0 y⟩) fun z => some ⟨(n69n_e0 z).1, (n69n_e0 z).2.1, (n69n_e0 z).2.2⟩) := by
  kernel_rfl

theorem n69n_lo0 : ∀ sp, (n69n_loops 0) = some sp → LoopOk G26.shallow ⟨0, 23, n69n_loops⟩ sp (loopBody Try.f96 0) := by
  intro sp hsp vals st k r h
  cases hsp
  dsimp only at h
  rcases onPats_inv2 h with ⟨p, q, rfl, rfl, h⟩ | h
  · exact loop_runs2 n69n_bp0 n69n_v0 n69n_s0 n69n_e0 (fun z => by rcases z with z | z <;> (intro h; cases h)) n69n_bx0 Fuel (p.1, p.2.1, p.2.2.1) _ k r (fun z => by rcases z with z | z <;> rfl) h
  cases h

theorem n69n_y (a0 : ByteArray) : execFn G26.shallow n69n_loops Try.f96 [.str a0] [] = n69n_k a0 (fun (y : Bool) => some ⟨.ret, [.bool y], []⟩) := by rw [n69n_e]; kernel_rfl

theorem n69n_l : LoopsOk G26.shallow ⟨0, 23, n69n_loops⟩ (Try.f96.body.getD .skip) :=
  loopsOk_of (ids := [0]) (by kernel_rfl) (by kernel_rfl) ⟨n69n_lo0, trivial⟩

theorem n69n_c : Contract Try.prog 96 n69n_g := by
  refine told G26_ok.shallow follows Try.func96 (c := Try.f96.body.getD .skip) (by kernel_rfl) ?_
  intro args s k r hk
  unfold n69n_g at hk
  rcases onPats_inv hk with ⟨p, q, rfl, rfl⟩ | hk
  · exact ⟨n69n_loops, n69n_q p.1, n69n_y p.1, n69n_l⟩
  cases hk

def G27 : Glob := G26.add 96 n69n_g

theorem G27_ok : GlobOk Try.prog G27 := G26_ok.add ⟨Try.f96, Try.func96, by kernel_rfl, by kernel_rfl⟩ n69n_c



def n76n_loops : Nat → Option LoopSpec
  | _ => none

theorem n76n_y (a0 : ByteArray) (a1 : ByteArray) (a2 : Bool) : execFn G27.shallow n76n_loops Try.f231 [.agg [.str a0, .str a1, .bool a2]] [] = n76n_k (a0, (a1, a2)) (fun (y : Bool) => some ⟨.ret, [.bool y], []⟩) := by rw [n76n_e]; kernel_rfl

theorem n76n_l : LoopsOk G27.shallow ⟨0, 22, n76n_loops⟩ (Try.f231.body.getD .skip) :=
  loopsOk_of (ids := []) (by kernel_rfl) (by kernel_rfl) trivial

theorem n76n_c : Contract Try.prog 231 n76n_g := by
  refine told G27_ok.shallow follows Try.func231 (c := Try.f231.body.getD .skip) (by kernel_rfl) ?_
  intro args s k r hk
  unfold n76n_g at hk
  rcases onPats_inv hk with ⟨p, q, rfl, rfl⟩ | hk
  · exact ⟨n76n_loops, n76n_q p.1.1 p.1.2.1 p.1.2.2.1, n76n_y p.1.1 p.1.2.1 p.1.2.2.1, n76n_l⟩
  cases hk

def G28 : Glob := G27.add 231 n76n_g

theorem G28_ok : GlobOk Try.prog G28 := G27_ok.add ⟨Try.f231, Try.func231, by kernel_rfl, by kernel_rfl⟩ n76n_c



def n77n_loops : Nat → Option LoopSpec
  | 0 => some ⟨[0, 2, 3], [], fun vals st k => onPats [.lst tWrite, .bool, .int .i64] [] vals st (fun p q => loopK n77n_b0 Fuel (p.1, p.2.1, p.2.2.1) (Sum.elim (fun z => k .ret [.lst tWrite z.1, .bool z.2.1, .int .i64 z.2.2] []) (fun z => k (.exit 0) [.lst tWrite z.1, .bool z.2.1, .int .i64 z.2.2] [])))
      (none)⟩
  | 2000004 => some ⟨[0, 2, 4, 6, 9, 10, 12, 14, 16, 18, 20, 22, 24, 26, 28, 30, 32, 34, 36, 38, 40, 42, 44, 46], [], fun _ _ _ => none⟩
  | _ => none

def n77n_v0 : ((List dWrite) × Bool × Int) → List AV := (fun x => [.lst tWrite x.1, .bool x.2.1, .int .i64 x.2.2])
def n77n_s0 : ((List dWrite) × Bool × Int) → St := (fun x => [])
def n77n_e0 : (((List dWrite) × Bool × Int) ⊕ ((List dWrite) × Bool × Int)) → Out × List AV × St := (Sum.elim (fun z => (.ret, [.lst tWrite z.1, .bool z.2.1, .int .i64 z.2.2], [])) (fun z => ((.exit 0), [.lst tWrite z.1, .bool z.2.1, .int .i64 z.2.2], [])))

theorem n77n_bx0 (x : ((List dWrite) × Bool × Int)) : exec G28.shallow ⟨0, 37, n77n_loops⟩ (loopBody Try.f165 0) (bodyK ⟨0, 37, n77n_loops⟩ [0, 2, 3] []) (setEs (deads 37) [0, 2, 3] (n77n_v0 x)) (n77n_s0 x) = n77n_b0 x (Sum.elim (fun y => some ⟨.norm, n77n_v0 y, n77n_s0 y⟩) fun z => some ⟨(n77n_e0 z).1, (n77n_e0 z).2.1, (n77n_e0 z).2.2⟩) := by
  kernel_rfl

theorem n77n_lo0 : ∀ sp, (n77n_loops 0) = some sp → LoopOk G28.shallow ⟨0, 37, n77n_loops⟩ sp (loopBody Try.f165 0) := by
  intro sp hsp vals st k r h
  cases hsp
  dsimp only at h
  rcases onPats_inv2 h with ⟨p, q, rfl, rfl, h⟩ | h
  · exact loop_runs2 n77n_bp0 n77n_v0 n77n_s0 n77n_e0 (fun z => by rcases z with z | z <;> (intro h; cases h)) n77n_bx0 Fuel (p.1, p.2.1, p.2.2.1) _ k r (fun z => by rcases z with z | z <;> rfl) h
  cases h

theorem n77n_y (a0 : (List dWrite)) : execFn G28.shallow n77n_loops Try.f165 [.lst tWrite a0] [] = n77n_k a0 (fun (y : Bool) => some ⟨.ret, [.bool y], []⟩) := by rw [n77n_e]; kernel_rfl

theorem n77n_l : LoopsOk G28.shallow ⟨0, 37, n77n_loops⟩ (Try.f165.body.getD .skip) :=
  loopsOk_of (ids := [0]) (by kernel_rfl) (by kernel_rfl) ⟨n77n_lo0, trivial⟩

theorem n77n_c : Contract Try.prog 165 n77n_g := by
  refine told G28_ok.shallow follows Try.func165 (c := Try.f165.body.getD .skip) (by kernel_rfl) ?_
  intro args s k r hk
  unfold n77n_g at hk
  rcases onPats_inv hk with ⟨p, q, rfl, rfl⟩ | hk
  · exact ⟨n77n_loops, n77n_q p.1, n77n_y p.1, n77n_l⟩
  cases hk

def G29 : Glob := G28.add 165 n77n_g

theorem G29_ok : GlobOk Try.prog G29 := G28_ok.add ⟨Try.f165, Try.func165, by kernel_rfl, by kernel_rfl⟩ n77n_c



def n72n_loops : Nat → Option LoopSpec
  | _ => none

theorem n72n_y (a0 : ByteArray) (a1 : ByteArray) : execFn G29.shallow n72n_loops Try.f166 [.agg [.str a0, .str a1]] [] = n72n_k (a0, a1) (fun (y : Bool) => some ⟨.ret, [.bool y], []⟩) := by rw [n72n_e]; kernel_rfl

theorem n72n_l : LoopsOk G29.shallow ⟨0, 18, n72n_loops⟩ (Try.f166.body.getD .skip) :=
  loopsOk_of (ids := []) (by kernel_rfl) (by kernel_rfl) trivial

theorem n72n_c : Contract Try.prog 166 n72n_g := by
  refine told G29_ok.shallow follows Try.func166 (c := Try.f166.body.getD .skip) (by kernel_rfl) ?_
  intro args s k r hk
  unfold n72n_g at hk
  rcases onPats_inv hk with ⟨p, q, rfl, rfl⟩ | hk
  · exact ⟨n72n_loops, n72n_q p.1.1 p.1.2.1, n72n_y p.1.1 p.1.2.1, n72n_l⟩
  cases hk

def G30 : Glob := G29.add 166 n72n_g

theorem G30_ok : GlobOk Try.prog G30 := G29_ok.add ⟨Try.f166, Try.func166, by kernel_rfl, by kernel_rfl⟩ n72n_c



def n75n_loops : Nat → Option LoopSpec
  | 5000012 => some ⟨[1, 2], [], fun vals st k => onPats [.bp 0 0, .bool] [.box [.int .i64, .int .i64, .int .i64, .int .i64, .lst tRange, .lst tWrite, .bool, .str]] vals st (fun p q => n75n_j5000012 (p.2.1, q.1.1, q.1.2.1, q.1.2.2.1, q.1.2.2.2.1, q.1.2.2.2.2.1, q.1.2.2.2.2.2.1, q.1.2.2.2.2.2.2.1, q.1.2.2.2.2.2.2.2.1) (fun z => k .ret [.bp 0 0, .bool z.1] [.box [.int .i64 z.2.1, .int .i64 z.2.2.1, .int .i64 z.2.2.2.1, .int .i64 z.2.2.2.2.1, .lst tRange z.2.2.2.2.2.1, .lst tWrite z.2.2.2.2.2.2.1, .bool z.2.2.2.2.2.2.2.1, .str z.2.2.2.2.2.2.2.2]]))
      (none)⟩
  | 5000010 => some ⟨[1, 2], [], fun vals st k => onPats [.bp 0 0, .bool] [.box [.int .i64, .int .i64, .int .i64, .int .i64, .lst tRange, .lst tWrite, .bool, .str]] vals st (fun p q => n75n_j5000010 (p.2.1, q.1.1, q.1.2.1, q.1.2.2.1, q.1.2.2.2.1, q.1.2.2.2.2.1, q.1.2.2.2.2.2.1, q.1.2.2.2.2.2.2.1, q.1.2.2.2.2.2.2.2.1) (fun z => k .ret [.bp 0 0, .bool z.1] [.box [.int .i64 z.2.1, .int .i64 z.2.2.1, .int .i64 z.2.2.2.1, .int .i64 z.2.2.2.2.1, .lst tRange z.2.2.2.2.2.1, .lst tWrite z.2.2.2.2.2.2.1, .bool z.2.2.2.2.2.2.2.1, .str z.2.2.2.2.2.2.2.2]]))
      (none)⟩
  | 0 => some ⟨[1, 2, 3], [], fun vals st k => onPats [.bp 0 0, .bool, .int .i64] [.box [.int .i64, .int .i64, .int .i64, .int .i64, .lst tRange, .lst tWrite, .bool, .str]] vals st (fun p q => loopK n75n_b0 Fuel (p.2.1, p.2.2.1, q.1.1, q.1.2.1, q.1.2.2.1, q.1.2.2.2.1, q.1.2.2.2.2.1, q.1.2.2.2.2.2.1, q.1.2.2.2.2.2.2.1, q.1.2.2.2.2.2.2.2.1) (Sum.elim (fun z => k .ret [.bp 0 0, .bool z.1, .int .i64 z.2.1] [.box [.int .i64 z.2.2.1, .int .i64 z.2.2.2.1, .int .i64 z.2.2.2.2.1, .int .i64 z.2.2.2.2.2.1, .lst tRange z.2.2.2.2.2.2.1, .lst tWrite z.2.2.2.2.2.2.2.1, .bool z.2.2.2.2.2.2.2.2.1, .str z.2.2.2.2.2.2.2.2.2]]) (fun z => k (.exit 0) [.bp 0 0, .bool z.1, .int .i64 z.2.1] [.box [.int .i64 z.2.2.1, .int .i64 z.2.2.2.1, .int .i64 z.2.2.2.2.1, .int .i64 z.2.2.2.2.2.1, .lst tRange z.2.2.2.2.2.2.1, .lst tWrite z.2.2.2.2.2.2.2.1, .bool z.2.2.2.2.2.2.2.2.1, .str z.2.2.2.2.2.2.2.2.2]])))
      (none)⟩
  | 5000003 => some ⟨[1, 2], [], fun vals st k => onPats [.bp 0 0, .bool] [.box [.int .i64, .int .i64, .int .i64, .int .i64, .lst tRange, .lst tWrite, .bool, .str]] vals st (fun p q => n75n_j5000003 (p.2.1, q.1.1, q.1.2.1, q.1.2.2.1, q.1.2.2.2.1, q.1.2.2.2.2.1, q.1.2.2.2.2.2.1, q.1.2.2.2.2.2.2.1, q.1.2.2.2.2.2.2.2.1) (fun z => k .ret [.bp 0 0, .bool z.1] [.box [.int .i64 z.2.1, .int .i64 z.2.2.1, .int .i64 z.2.2.2.1, .int .i64 z.2.2.2.2.1, .lst tRange z.2.2.2.2.2.1, .lst tWrite z.2.2.2.2.2.2.1, .bool z.2.2.2.2.2.2.2.1, .str z.2.2.2.2.2.2.2.2]]))
      (none)⟩
  | _ => none

def n75n_jv5000012 : q26T → List AV := (fun x => [.bp 0 0, .bool x.1])
def n75n_js5000012 : q26T → St := (fun x => [.box [.int .i64 x.2.1, .int .i64 x.2.2.1, .int .i64 x.2.2.2.1, .int .i64 x.2.2.2.2.1, .lst tRange x.2.2.2.2.2.1, .lst tWrite x.2.2.2.2.2.2.1, .bool x.2.2.2.2.2.2.2.1, .str x.2.2.2.2.2.2.2.2]])
def n75n_je5000012 : q26T → Out × List AV × St := (fun z => (.ret, [.bp 0 0, .bool z.1], [.box [.int .i64 z.2.1, .int .i64 z.2.2.1, .int .i64 z.2.2.2.1, .int .i64 z.2.2.2.2.1, .lst tRange z.2.2.2.2.2.1, .lst tWrite z.2.2.2.2.2.2.1, .bool z.2.2.2.2.2.2.2.1, .str z.2.2.2.2.2.2.2.2]]))

theorem n75n_jx5000012 (x : q26T) : exec G30.shallow ⟨0, 95, n75n_loops⟩ (loopBody Try.f78 5000012) (bodyK ⟨0, 95, n75n_loops⟩ [1, 2] []) (setEs (deads 95) [1, 2] (n75n_jv5000012 x)) (n75n_js5000012 x) = n75n_j5000012 x (fun z => some ⟨(n75n_je5000012 z).1, (n75n_je5000012 z).2.1, (n75n_je5000012 z).2.2⟩) := by
  kernel_rfl

theorem n75n_lo5000012 : ∀ sp, (n75n_loops 5000012) = some sp → CutOk G30.shallow ⟨0, 95, n75n_loops⟩ sp (loopBody Try.f78 5000012) := by
  intro sp hsp vals st k r h
  cases hsp
  dsimp only at h
  rcases onPats_inv2 h with ⟨p, q, rfl, rfl, h⟩ | h
  · exact cut_runs n75n_jp5000012 n75n_jv5000012 n75n_js5000012 n75n_je5000012 n75n_jx5000012 (p.2.1, q.1.1, q.1.2.1, q.1.2.2.1, q.1.2.2.2.1, q.1.2.2.2.2.1, q.1.2.2.2.2.2.1, q.1.2.2.2.2.2.2.1, q.1.2.2.2.2.2.2.2.1) _ k r (fun z => rfl) h
  cases h

def n75n_jv5000010 : q26T → List AV := (fun x => [.bp 0 0, .bool x.1])
def n75n_js5000010 : q26T → St := (fun x => [.box [.int .i64 x.2.1, .int .i64 x.2.2.1, .int .i64 x.2.2.2.1, .int .i64 x.2.2.2.2.1, .lst tRange x.2.2.2.2.2.1, .lst tWrite x.2.2.2.2.2.2.1, .bool x.2.2.2.2.2.2.2.1, .str x.2.2.2.2.2.2.2.2]])
def n75n_je5000010 : q26T → Out × List AV × St := (fun z => (.ret, [.bp 0 0, .bool z.1], [.box [.int .i64 z.2.1, .int .i64 z.2.2.1, .int .i64 z.2.2.2.1, .int .i64 z.2.2.2.2.1, .lst tRange z.2.2.2.2.2.1, .lst tWrite z.2.2.2.2.2.2.1, .bool z.2.2.2.2.2.2.2.1, .str z.2.2.2.2.2.2.2.2]]))

theorem n75n_jx5000010 (x : q26T) : exec G30.shallow ⟨0, 95, n75n_loops⟩ (loopBody Try.f78 5000010) (bodyK ⟨0, 95, n75n_loops⟩ [1, 2] []) (setEs (deads 95) [1, 2] (n75n_jv5000010 x)) (n75n_js5000010 x) = n75n_j5000010 x (fun z => some ⟨(n75n_je5000010 z).1, (n75n_je5000010 z).2.1, (n75n_je5000010 z).2.2⟩) := by
  kernel_rfl

theorem n75n_lo5000010 : ∀ sp, (n75n_loops 5000010) = some sp → CutOk G30.shallow ⟨0, 95, n75n_loops⟩ sp (loopBody Try.f78 5000010) := by
  intro sp hsp vals st k r h
  cases hsp
  dsimp only at h
  rcases onPats_inv2 h with ⟨p, q, rfl, rfl, h⟩ | h
  · exact cut_runs n75n_jp5000010 n75n_jv5000010 n75n_js5000010 n75n_je5000010 n75n_jx5000010 (p.2.1, q.1.1, q.1.2.1, q.1.2.2.1, q.1.2.2.2.1, q.1.2.2.2.2.1, q.1.2.2.2.2.2.1, q.1.2.2.2.2.2.2.1, q.1.2.2.2.2.2.2.2.1) _ k r (fun z => rfl) h
  cases h

def n75n_v0 : q29T → List AV := (fun x => [.bp 0 0, .bool x.1, .int .i64 x.2.1])
def n75n_s0 : q29T → St := (fun x => [.box [.int .i64 x.2.2.1, .int .i64 x.2.2.2.1, .int .i64 x.2.2.2.2.1, .int .i64 x.2.2.2.2.2.1, .lst tRange x.2.2.2.2.2.2.1, .lst tWrite x.2.2.2.2.2.2.2.1, .bool x.2.2.2.2.2.2.2.2.1, .str x.2.2.2.2.2.2.2.2.2]])
def n75n_e0 : (q29T ⊕ q29T) → Out × List AV × St := (Sum.elim (fun z => (.ret, [.bp 0 0, .bool z.1, .int .i64 z.2.1], [.box [.int .i64 z.2.2.1, .int .i64 z.2.2.2.1, .int .i64 z.2.2.2.2.1, .int .i64 z.2.2.2.2.2.1, .lst tRange z.2.2.2.2.2.2.1, .lst tWrite z.2.2.2.2.2.2.2.1, .bool z.2.2.2.2.2.2.2.2.1, .str z.2.2.2.2.2.2.2.2.2]])) (fun z => ((.exit 0), [.bp 0 0, .bool z.1, .int .i64 z.2.1], [.box [.int .i64 z.2.2.1, .int .i64 z.2.2.2.1, .int .i64 z.2.2.2.2.1, .int .i64 z.2.2.2.2.2.1, .lst tRange z.2.2.2.2.2.2.1, .lst tWrite z.2.2.2.2.2.2.2.1, .bool z.2.2.2.2.2.2.2.2.1, .str z.2.2.2.2.2.2.2.2.2]])))

theorem n75n_bx0 (x : q29T) : exec G30.shallow ⟨0, 95, n75n_loops⟩ (loopBody Try.f78 0) (bodyK ⟨0, 95, n75n_loops⟩ [1, 2, 3] []) (setEs (deads 95) [1, 2, 3] (n75n_v0 x)) (n75n_s0 x) = n75n_b0 x (Sum.elim (fun y => some ⟨.norm, n75n_v0 y, n75n_s0 y⟩) fun z => some ⟨(n75n_e0 z).1, (n75n_e0 z).2.1, (n75n_e0 z).2.2⟩) := by
  kernel_rfl

theorem n75n_lo0 : ∀ sp, (n75n_loops 0) = some sp → LoopOk G30.shallow ⟨0, 95, n75n_loops⟩ sp (loopBody Try.f78 0) := by
  intro sp hsp vals st k r h
  cases hsp
  dsimp only at h
  rcases onPats_inv2 h with ⟨p, q, rfl, rfl, h⟩ | h
  · exact loop_runs2 n75n_bp0 n75n_v0 n75n_s0 n75n_e0 (fun z => by rcases z with z | z <;> (intro h; cases h)) n75n_bx0 Fuel (p.2.1, p.2.2.1, q.1.1, q.1.2.1, q.1.2.2.1, q.1.2.2.2.1, q.1.2.2.2.2.1, q.1.2.2.2.2.2.1, q.1.2.2.2.2.2.2.1, q.1.2.2.2.2.2.2.2.1) _ k r (fun z => by rcases z with z | z <;> rfl) h
  cases h

def n75n_jv5000003 : q26T → List AV := (fun x => [.bp 0 0, .bool x.1])
def n75n_js5000003 : q26T → St := (fun x => [.box [.int .i64 x.2.1, .int .i64 x.2.2.1, .int .i64 x.2.2.2.1, .int .i64 x.2.2.2.2.1, .lst tRange x.2.2.2.2.2.1, .lst tWrite x.2.2.2.2.2.2.1, .bool x.2.2.2.2.2.2.2.1, .str x.2.2.2.2.2.2.2.2]])
def n75n_je5000003 : q26T → Out × List AV × St := (fun z => (.ret, [.bp 0 0, .bool z.1], [.box [.int .i64 z.2.1, .int .i64 z.2.2.1, .int .i64 z.2.2.2.1, .int .i64 z.2.2.2.2.1, .lst tRange z.2.2.2.2.2.1, .lst tWrite z.2.2.2.2.2.2.1, .bool z.2.2.2.2.2.2.2.1, .str z.2.2.2.2.2.2.2.2]]))

theorem n75n_jx5000003 (x : q26T) : exec G30.shallow ⟨0, 95, n75n_loops⟩ (loopBody Try.f78 5000003) (bodyK ⟨0, 95, n75n_loops⟩ [1, 2] []) (setEs (deads 95) [1, 2] (n75n_jv5000003 x)) (n75n_js5000003 x) = n75n_j5000003 x (fun z => some ⟨(n75n_je5000003 z).1, (n75n_je5000003 z).2.1, (n75n_je5000003 z).2.2⟩) := by
  kernel_rfl

theorem n75n_lo5000003 : ∀ sp, (n75n_loops 5000003) = some sp → CutOk G30.shallow ⟨0, 95, n75n_loops⟩ sp (loopBody Try.f78 5000003) := by
  intro sp hsp vals st k r h
  cases hsp
  dsimp only at h
  rcases onPats_inv2 h with ⟨p, q, rfl, rfl, h⟩ | h
  · exact cut_runs n75n_jp5000003 n75n_jv5000003 n75n_js5000003 n75n_je5000003 n75n_jx5000003 (p.2.1, q.1.1, q.1.2.1, q.1.2.2.1, q.1.2.2.2.1, q.1.2.2.2.2.1, q.1.2.2.2.2.2.1, q.1.2.2.2.2.2.2.1, q.1.2.2.2.2.2.2.2.1) _ k r (fun z => rfl) h
  cases h

theorem n75n_y (a0 : Int) (a1 : Int) (a2 : Int) (a3 : Int) (a4 : (List dRange)) (a5 : (List dWrite)) (a6 : Bool) (a7 : ByteArray) : execFn G30.shallow n75n_loops Try.f78 [.agg [.int .i64 a0, .int .i64 a1, .int .i64 a2, .int .i64 a3, .lst tRange a4, .lst tWrite a5, .bool a6, .str a7]] [] = n75n_k (a0, (a1, (a2, (a3, (a4, (a5, (a6, a7))))))) (fun (y : Bool) => some ⟨.ret, [.bool y], []⟩) := by rw [n75n_e]; kernel_rfl

theorem n75n_l : LoopsOk G30.shallow ⟨0, 95, n75n_loops⟩ (Try.f78.body.getD .skip) :=
  loopsOk_of (ids := [5000012, 5000010, 0, 5000003]) (by kernel_rfl) (by kernel_rfl) ⟨n75n_lo5000012, ⟨n75n_lo5000010, ⟨n75n_lo0, ⟨n75n_lo5000003, trivial⟩⟩⟩⟩

theorem n75n_c : Contract Try.prog 78 n75n_g := by
  refine told G30_ok.shallow follows Try.func78 (c := Try.f78.body.getD .skip) (by kernel_rfl) ?_
  intro args s k r hk
  unfold n75n_g at hk
  rcases onPats_inv hk with ⟨p, q, rfl, rfl⟩ | hk
  · exact ⟨n75n_loops, n75n_q p.1.1 p.1.2.1 p.1.2.2.1 p.1.2.2.2.1 p.1.2.2.2.2.1 p.1.2.2.2.2.2.1 p.1.2.2.2.2.2.2.1 p.1.2.2.2.2.2.2.2.1, n75n_y p.1.1 p.1.2.1 p.1.2.2.1 p.1.2.2.2.1 p.1.2.2.2.2.1 p.1.2.2.2.2.2.1 p.1.2.2.2.2.2.2.1 p.1.2.2.2.2.2.2.2.1, n75n_l⟩
  cases hk

def G31 : Glob := G30.add 78 n75n_g

theorem G31_ok : GlobOk Try.prog G31 := G30_ok.add ⟨Try.f78, Try.func78, by kernel_rfl, by kernel_rfl⟩ n75n_c



def n73n_loops : Nat → Option LoopSpec
  | 0 => some ⟨[2, 3, 4, 5, 6, 7], [none, none, none, none, none, none, none, none, none, none, none, none, none, none, none, none, none, none, none, none, some tRange, some tWrite], fun vals st k => onPats [.bp 0 0, .bp 1 0, .bp 2 0, .bool, .bp 3 0, .int .i64] [.box [.int .i64, .int .i64, .int .i64, .int .i64, .lst tRange, .lst tWrite, .bool, .str], .box [.str, .str], .box [.int .i64, .int .i64, .int .i64, .int .i64, .own 4, .own 5, .bool, .str], .box [.int .i64, .int .i64, .int .i64, .int .i64, .own 6, .own 7, .bool, .str], .arr tRange, .arr tWrite, .arr tRange, .arr tWrite] vals st (fun p q => loopK n73n_b0 Fuel (p.2.2.2.1, p.2.2.2.2.2.1, q.1.1, q.1.2.1, q.1.2.2.1, q.1.2.2.2.1, q.1.2.2.2.2.1, q.1.2.2.2.2.2.1, q.1.2.2.2.2.2.2.1, q.1.2.2.2.2.2.2.2.1, q.2.1.1, q.2.1.2.1, q.2.2.1.1, q.2.2.1.2.1, q.2.2.1.2.2.1, q.2.2.1.2.2.2.1, q.2.2.1.2.2.2.2.2.2.1, q.2.2.1.2.2.2.2.2.2.2.1, q.2.2.2.1.1, q.2.2.2.1.2.1, q.2.2.2.1.2.2.1, q.2.2.2.1.2.2.2.1, q.2.2.2.1.2.2.2.2.2.2.1, q.2.2.2.1.2.2.2.2.2.2.2.1, q.2.2.2.2.1, q.2.2.2.2.2.1, q.2.2.2.2.2.2.1, q.2.2.2.2.2.2.2.1) (Sum.elim (fun z => k (.exit 0) [.bp 0 0, .bp 1 0, .bp 2 0, .bool z.1, .bp 3 0, .int .i64 z.2.1] [.box [.int .i64 z.2.2.1, .int .i64 z.2.2.2.1, .int .i64 z.2.2.2.2.1, .int .i64 z.2.2.2.2.2.1, .lst tRange z.2.2.2.2.2.2.1, .lst tWrite z.2.2.2.2.2.2.2.1, .bool z.2.2.2.2.2.2.2.2.1, .str z.2.2.2.2.2.2.2.2.2.1], .box [.str z.2.2.2.2.2.2.2.2.2.2.1, .str z.2.2.2.2.2.2.2.2.2.2.2.1], .box [.int .i64 z.2.2.2.2.2.2.2.2.2.2.2.2.1, .int .i64 z.2.2.2.2.2.2.2.2.2.2.2.2.2.1, .int .i64 z.2.2.2.2.2.2.2.2.2.2.2.2.2.2.1, .int .i64 z.2.2.2.2.2.2.2.2.2.2.2.2.2.2.2.1, .own 4, .own 5, .bool z.2.2.2.2.2.2.2.2.2.2.2.2.2.2.2.2.1, .str z.2.2.2.2.2.2.2.2.2.2.2.2.2.2.2.2.2.1], .box [.int .i64 z.2.2.2.2.2.2.2.2.2.2.2.2.2.2.2.2.2.2.1, .int .i64 z.2.2.2.2.2.2.2.2.2.2.2.2.2.2.2.2.2.2.2.1, .int .i64 z.2.2.2.2.2.2.2.2.2.2.2.2.2.2.2.2.2.2.2.2.1, .int .i64 z.2.2.2.2.2.2.2.2.2.2.2.2.2.2.2.2.2.2.2.2.2.1, .own 6, .own 7, .bool z.2.2.2.2.2.2.2.2.2.2.2.2.2.2.2.2.2.2.2.2.2.2.1, .str z.2.2.2.2.2.2.2.2.2.2.2.2.2.2.2.2.2.2.2.2.2.2.2.1], .arr tRange z.2.2.2.2.2.2.2.2.2.2.2.2.2.2.2.2.2.2.2.2.2.2.2.2.1, .arr tWrite z.2.2.2.2.2.2.2.2.2.2.2.2.2.2.2.2.2.2.2.2.2.2.2.2.2.1, .arr tRange z.2.2.2.2.2.2.2.2.2.2.2.2.2.2.2.2.2.2.2.2.2.2.2.2.2.2.1, .arr tWrite z.2.2.2.2.2.2.2.2.2.2.2.2.2.2.2.2.2.2.2.2.2.2.2.2.2.2.2]) (fun z => k .ret [.bp 0 0, .bp 1 0, .bp 2 0, .bool z.1, .bp 3 0, .int .i64 z.2.1] [.box [.int .i64 z.2.2.1, .int .i64 z.2.2.2.1, .int .i64 z.2.2.2.2.1, .int .i64 z.2.2.2.2.2.1, .lst tRange z.2.2.2.2.2.2.1, .lst tWrite z.2.2.2.2.2.2.2.1, .bool z.2.2.2.2.2.2.2.2.1, .str z.2.2.2.2.2.2.2.2.2.1], .box [.str z.2.2.2.2.2.2.2.2.2.2.1, .str z.2.2.2.2.2.2.2.2.2.2.2.1], .box [.int .i64 z.2.2.2.2.2.2.2.2.2.2.2.2.1, .int .i64 z.2.2.2.2.2.2.2.2.2.2.2.2.2.1, .int .i64 z.2.2.2.2.2.2.2.2.2.2.2.2.2.2.1, .int .i64 z.2.2.2.2.2.2.2.2.2.2.2.2.2.2.2.1, .own 4, .own 5, .bool z.2.2.2.2.2.2.2.2.2.2.2.2.2.2.2.2.1, .str z.2.2.2.2.2.2.2.2.2.2.2.2.2.2.2.2.2.1], .box [.int .i64 z.2.2.2.2.2.2.2.2.2.2.2.2.2.2.2.2.2.2.1, .int .i64 z.2.2.2.2.2.2.2.2.2.2.2.2.2.2.2.2.2.2.2.1, .int .i64 z.2.2.2.2.2.2.2.2.2.2.2.2.2.2.2.2.2.2.2.2.1, .int .i64 z.2.2.2.2.2.2.2.2.2.2.2.2.2.2.2.2.2.2.2.2.2.1, .own 4, .own 5, .bool z.2.2.2.2.2.2.2.2.2.2.2.2.2.2.2.2.2.2.2.2.2.2.1, .str z.2.2.2.2.2.2.2.2.2.2.2.2.2.2.2.2.2.2.2.2.2.2.2.1], .arr tRange z.2.2.2.2.2.2.2.2.2.2.2.2.2.2.2.2.2.2.2.2.2.2.2.2.1, .arr tWrite z.2.2.2.2.2.2.2.2.2.2.2.2.2.2.2.2.2.2.2.2.2.2.2.2.2])))
      (none)⟩
  | 5000004 => some ⟨[2, 3, 4, 5, 6], [none, none, none, none, none, none, none, none, none, none, none, none, none, none, none, none, none, none, none, some tRange, some tWrite], fun vals st k => onPats [.bp 0 0, .bp 1 0, .bp 2 0, .bool, .bp 3 0] [.box [.int .i64, .int .i64, .int .i64, .int .i64, .lst tRange, .lst tWrite, .bool, .str], .box [.str, .str], .box [.int .i64, .int .i64, .int .i64, .int .i64, .own 4, .own 5, .bool, .str], .box [.int .i64, .int .i64, .int .i64, .int .i64, .own 6, .own 7, .bool, .str], .arr tRange, .arr tWrite, .arr tRange, .arr tWrite] vals st (fun p q => n73n_j5000004 (p.2.2.2.1, q.1.1, q.1.2.1, q.1.2.2.1, q.1.2.2.2.1, q.1.2.2.2.2.1, q.1.2.2.2.2.2.1, q.1.2.2.2.2.2.2.1, q.1.2.2.2.2.2.2.2.1, q.2.1.1, q.2.1.2.1, q.2.2.1.1, q.2.2.1.2.1, q.2.2.1.2.2.1, q.2.2.1.2.2.2.1, q.2.2.1.2.2.2.2.2.2.1, q.2.2.1.2.2.2.2.2.2.2.1, q.2.2.2.1.1, q.2.2.2.1.2.1, q.2.2.2.1.2.2.1, q.2.2.2.1.2.2.2.1, q.2.2.2.1.2.2.2.2.2.2.1, q.2.2.2.1.2.2.2.2.2.2.2.1, q.2.2.2.2.1, q.2.2.2.2.2.1, q.2.2.2.2.2.2.1, q.2.2.2.2.2.2.2.1) (fun z => k .ret [.bp 0 0, .bp 1 0, .bp 2 0, .bool z.1, .bp 3 0] [.box [.int .i64 z.2.1, .int .i64 z.2.2.1, .int .i64 z.2.2.2.1, .int .i64 z.2.2.2.2.1, .lst tRange z.2.2.2.2.2.1, .lst tWrite z.2.2.2.2.2.2.1, .bool z.2.2.2.2.2.2.2.1, .str z.2.2.2.2.2.2.2.2.1], .box [.str z.2.2.2.2.2.2.2.2.2.1, .str z.2.2.2.2.2.2.2.2.2.2.1], .box [.int .i64 z.2.2.2.2.2.2.2.2.2.2.2.1, .int .i64 z.2.2.2.2.2.2.2.2.2.2.2.2.1, .int .i64 z.2.2.2.2.2.2.2.2.2.2.2.2.2.1, .int .i64 z.2.2.2.2.2.2.2.2.2.2.2.2.2.2.1, .own 4, .own 5, .bool z.2.2.2.2.2.2.2.2.2.2.2.2.2.2.2.1, .str z.2.2.2.2.2.2.2.2.2.2.2.2.2.2.2.2.1], .box [.int .i64 z.2.2.2.2.2.2.2.2.2.2.2.2.2.2.2.2.2.1, .int .i64 z.2.2.2.2.2.2.2.2.2.2.2.2.2.2.2.2.2.2.1, .int .i64 z.2.2.2.2.2.2.2.2.2.2.2.2.2.2.2.2.2.2.2.1, .int .i64 z.2.2.2.2.2.2.2.2.2.2.2.2.2.2.2.2.2.2.2.2.1, .own 4, .own 5, .bool z.2.2.2.2.2.2.2.2.2.2.2.2.2.2.2.2.2.2.2.2.2.1, .str z.2.2.2.2.2.2.2.2.2.2.2.2.2.2.2.2.2.2.2.2.2.2.1], .arr tRange z.2.2.2.2.2.2.2.2.2.2.2.2.2.2.2.2.2.2.2.2.2.2.2.1, .arr tWrite z.2.2.2.2.2.2.2.2.2.2.2.2.2.2.2.2.2.2.2.2.2.2.2.2]))
      (none)⟩
  | _ => none

def n73n_v0 : q27T → List AV := (fun x => [.bp 0 0, .bp 1 0, .bp 2 0, .bool x.1, .bp 3 0, .int .i64 x.2.1])
def n73n_s0 : q27T → St := (fun x => [.box [.int .i64 x.2.2.1, .int .i64 x.2.2.2.1, .int .i64 x.2.2.2.2.1, .int .i64 x.2.2.2.2.2.1, .lst tRange x.2.2.2.2.2.2.1, .lst tWrite x.2.2.2.2.2.2.2.1, .bool x.2.2.2.2.2.2.2.2.1, .str x.2.2.2.2.2.2.2.2.2.1], .box [.str x.2.2.2.2.2.2.2.2.2.2.1, .str x.2.2.2.2.2.2.2.2.2.2.2.1], .box [.int .i64 x.2.2.2.2.2.2.2.2.2.2.2.2.1, .int .i64 x.2.2.2.2.2.2.2.2.2.2.2.2.2.1, .int .i64 x.2.2.2.2.2.2.2.2.2.2.2.2.2.2.1, .int .i64 x.2.2.2.2.2.2.2.2.2.2.2.2.2.2.2.1, .own 4, .own 5, .bool x.2.2.2.2.2.2.2.2.2.2.2.2.2.2.2.2.1, .str x.2.2.2.2.2.2.2.2.2.2.2.2.2.2.2.2.2.1], .box [.int .i64 x.2.2.2.2.2.2.2.2.2.2.2.2.2.2.2.2.2.2.1, .int .i64 x.2.2.2.2.2.2.2.2.2.2.2.2.2.2.2.2.2.2.2.1, .int .i64 x.2.2.2.2.2.2.2.2.2.2.2.2.2.2.2.2.2.2.2.2.1, .int .i64 x.2.2.2.2.2.2.2.2.2.2.2.2.2.2.2.2.2.2.2.2.2.1, .own 6, .own 7, .bool x.2.2.2.2.2.2.2.2.2.2.2.2.2.2.2.2.2.2.2.2.2.2.1, .str x.2.2.2.2.2.2.2.2.2.2.2.2.2.2.2.2.2.2.2.2.2.2.2.1], .arr tRange x.2.2.2.2.2.2.2.2.2.2.2.2.2.2.2.2.2.2.2.2.2.2.2.2.1, .arr tWrite x.2.2.2.2.2.2.2.2.2.2.2.2.2.2.2.2.2.2.2.2.2.2.2.2.2.1, .arr tRange x.2.2.2.2.2.2.2.2.2.2.2.2.2.2.2.2.2.2.2.2.2.2.2.2.2.2.1, .arr tWrite x.2.2.2.2.2.2.2.2.2.2.2.2.2.2.2.2.2.2.2.2.2.2.2.2.2.2.2])
def n73n_e0 : (q27T ⊕ q28T) → Out × List AV × St := (Sum.elim (fun z => ((.exit 0), [.bp 0 0, .bp 1 0, .bp 2 0, .bool z.1, .bp 3 0, .int .i64 z.2.1], [.box [.int .i64 z.2.2.1, .int .i64 z.2.2.2.1, .int .i64 z.2.2.2.2.1, .int .i64 z.2.2.2.2.2.1, .lst tRange z.2.2.2.2.2.2.1, .lst tWrite z.2.2.2.2.2.2.2.1, .bool z.2.2.2.2.2.2.2.2.1, .str z.2.2.2.2.2.2.2.2.2.1], .box [.str z.2.2.2.2.2.2.2.2.2.2.1, .str z.2.2.2.2.2.2.2.2.2.2.2.1], .box [.int .i64 z.2.2.2.2.2.2.2.2.2.2.2.2.1, .int .i64 z.2.2.2.2.2.2.2.2.2.2.2.2.2.1, .int .i64 z.2.2.2.2.2.2.2.2.2.2.2.2.2.2.1, .int .i64 z.2.2.2.2.2.2.2.2.2.2.2.2.2.2.2.1, .own 4, .own 5, .bool z.2.2.2.2.2.2.2.2.2.2.2.2.2.2.2.2.1, .str z.2.2.2.2.2.2.2.2.2.2.2.2.2.2.2.2.2.1], .box [.int .i64 z.2.2.2.2.2.2.2.2.2.2.2.2.2.2.2.2.2.2.1, .int .i64 z.2.2.2.2.2.2.2.2.2.2.2.2.2.2.2.2.2.2.2.1, .int .i64 z.2.2.2.2.2.2.2.2.2.2.2.2.2.2.2.2.2.2.2.2.1, .int .i64 z.2.2.2.2.2.2.2.2.2.2.2.2.2.2.2.2.2.2.2.2.2.1, .own 6, .own 7, .bool z.2.2.2.2.2.2.2.2.2.2.2.2.2.2.2.2.2.2.2.2.2.2.1, .str z.2.2.2.2.2.2.2.2.2.2.2.2.2.2.2.2.2.2.2.2.2.2.2.1], .arr tRange z.2.2.2.2.2.2.2.2.2.2.2.2.2.2.2.2.2.2.2.2.2.2.2.2.1, .arr tWrite z.2.2.2.2.2.2.2.2.2.2.2.2.2.2.2.2.2.2.2.2.2.2.2.2.2.1, .arr tRange z.2.2.2.2.2.2.2.2.2.2.2.2.2.2.2.2.2.2.2.2.2.2.2.2.2.2.1, .arr tWrite z.2.2.2.2.2.2.2.2.2.2.2.2.2.2.2.2.2.2.2.2.2.2.2.2.2.2.2])) (fun z => (.ret, [.bp 0 0, .bp 1 0, .bp 2 0, .bool z.1, .bp 3 0, .int .i64 z.2.1], [.box [.int .i64 z.2.2.1, .int .i64 z.2.2.2.1, .int .i64 z.2.2.2.2.1, .int .i64 z.2.2.2.2.2.1, .lst tRange z.2.2.2.2.2.2.1, .lst tWrite z.2.2.2.2.2.2.2.1, .bool z.2.2.2.2.2.2.2.2.1, .str z.2.2.2.2.2.2.2.2.2.1], .box [.str z.2.2.2.2.2.2.2.2.2.2.1, .str z.2.2.2.2.2.2.2.2.2.2.2.1], .box [.int .i64 z.2.2.2.2.2.2.2.2.2.2.2.2.1, .int .i64 z.2.2.2.2.2.2.2.2.2.2.2.2.2.1, .int .i64 z.2.2.2.2.2.2.2.2.2.2.2.2.2.2.1, .int .i64 z.2.2.2.2.2.2.2.2.2.2.2.2.2.2.2.1, .own 4, .own 5, .bool z.2.2.2.2.2.2.2.2.2.2.2.2.2.2.2.2.1, .str z.2.2.2.2.2.2.2.2.2.2.2.2.2.2.2.2.2.1], .box [.int .i64 z.2.2.2.2.2.2.2.2.2.2.2.2.2.2.2.2.2.2.1, .int .i64 z.2.2.2.2.2.2.2.2.2.2.2.2.2.2.2.2.2.2.2.1, .int .i64 z.2.2.2.2.2.2.2.2.2.2.2.2.2.2.2.2.2.2.2.2.1, .int .i64 z.2.2.2.2.2.2.2.2.2.2.2.2.2.2.2.2.2.2.2.2.2.1, .own 4, .own 5, .bool z.2.2.2.2.2.2.2.2.2.2.2.2.2.2.2.2.2.2.2.2.2.2.1, .str z.2.2.2.2.2.2.2.2.2.2.2.2.2.2.2.2.2.2.2.2.2.2.2.1], .arr tRange z.2.2.2.2.2.2.2.2.2.2.2.2.2.2.2.2.2.2.2.2.2.2.2.2.1, .arr tWrite z.2.2.2.2.2.2.2.2.2.2.2.2.2.2.2.2.2.2.2.2.2.2.2.2.2])))

theorem n73n_bx0 (x : q27T) : exec G31.shallow ⟨0, 51, n73n_loops⟩ (loopBody Try.f156 0) (bodyK ⟨0, 51, n73n_loops⟩ [2, 3, 4, 5, 6, 7] [none, none, none, none, none, none, none, none, none, none, none, none, none, none, none, none, none, none, none, none, some tRange, some tWrite]) (setEs (deads 51) [2, 3, 4, 5, 6, 7] (n73n_v0 x)) (n73n_s0 x) = n73n_b0 x (Sum.elim (fun y => some ⟨.norm, n73n_v0 y, n73n_s0 y⟩) fun z => some ⟨(n73n_e0 z).1, (n73n_e0 z).2.1, (n73n_e0 z).2.2⟩) := by
  kernel_rfl

theorem n73n_lo0 : ∀ sp, (n73n_loops 0) = some sp → LoopOk G31.shallow ⟨0, 51, n73n_loops⟩ sp (loopBody Try.f156 0) := by
  intro sp hsp vals st k r h
  cases hsp
  dsimp only at h
  rcases onPats_inv2 h with ⟨p, q, rfl, rfl, h⟩ | h
  · exact loop_runs2 n73n_bp0 n73n_v0 n73n_s0 n73n_e0 (fun z => by rcases z with z | z <;> (intro h; cases h)) n73n_bx0 Fuel (p.2.2.2.1, p.2.2.2.2.2.1, q.1.1, q.1.2.1, q.1.2.2.1, q.1.2.2.2.1, q.1.2.2.2.2.1, q.1.2.2.2.2.2.1, q.1.2.2.2.2.2.2.1, q.1.2.2.2.2.2.2.2.1, q.2.1.1, q.2.1.2.1, q.2.2.1.1, q.2.2.1.2.1, q.2.2.1.2.2.1, q.2.2.1.2.2.2.1, q.2.2.1.2.2.2.2.2.2.1, q.2.2.1.2.2.2.2.2.2.2.1, q.2.2.2.1.1, q.2.2.2.1.2.1, q.2.2.2.1.2.2.1, q.2.2.2.1.2.2.2.1, q.2.2.2.1.2.2.2.2.2.2.1, q.2.2.2.1.2.2.2.2.2.2.2.1, q.2.2.2.2.1, q.2.2.2.2.2.1, q.2.2.2.2.2.2.1, q.2.2.2.2.2.2.2.1) _ k r (fun z => by rcases z with z | z <;> rfl) h
  cases h

def n73n_jv5000004 : q24T → List AV := (fun x => [.bp 0 0, .bp 1 0, .bp 2 0, .bool x.1, .bp 3 0])
def n73n_js5000004 : q24T → St := (fun x => [.box [.int .i64 x.2.1, .int .i64 x.2.2.1, .int .i64 x.2.2.2.1, .int .i64 x.2.2.2.2.1, .lst tRange x.2.2.2.2.2.1, .lst tWrite x.2.2.2.2.2.2.1, .bool x.2.2.2.2.2.2.2.1, .str x.2.2.2.2.2.2.2.2.1], .box [.str x.2.2.2.2.2.2.2.2.2.1, .str x.2.2.2.2.2.2.2.2.2.2.1], .box [.int .i64 x.2.2.2.2.2.2.2.2.2.2.2.1, .int .i64 x.2.2.2.2.2.2.2.2.2.2.2.2.1, .int .i64 x.2.2.2.2.2.2.2.2.2.2.2.2.2.1, .int .i64 x.2.2.2.2.2.2.2.2.2.2.2.2.2.2.1, .own 4, .own 5, .bool x.2.2.2.2.2.2.2.2.2.2.2.2.2.2.2.1, .str x.2.2.2.2.2.2.2.2.2.2.2.2.2.2.2.2.1], .box [.int .i64 x.2.2.2.2.2.2.2.2.2.2.2.2.2.2.2.2.2.1, .int .i64 x.2.2.2.2.2.2.2.2.2.2.2.2.2.2.2.2.2.2.1, .int .i64 x.2.2.2.2.2.2.2.2.2.2.2.2.2.2.2.2.2.2.2.1, .int .i64 x.2.2.2.2.2.2.2.2.2.2.2.2.2.2.2.2.2.2.2.2.1, .own 6, .own 7, .bool x.2.2.2.2.2.2.2.2.2.2.2.2.2.2.2.2.2.2.2.2.2.1, .str x.2.2.2.2.2.2.2.2.2.2.2.2.2.2.2.2.2.2.2.2.2.2.1], .arr tRange x.2.2.2.2.2.2.2.2.2.2.2.2.2.2.2.2.2.2.2.2.2.2.2.1, .arr tWrite x.2.2.2.2.2.2.2.2.2.2.2.2.2.2.2.2.2.2.2.2.2.2.2.2.1, .arr tRange x.2.2.2.2.2.2.2.2.2.2.2.2.2.2.2.2.2.2.2.2.2.2.2.2.2.1, .arr tWrite x.2.2.2.2.2.2.2.2.2.2.2.2.2.2.2.2.2.2.2.2.2.2.2.2.2.2])
def n73n_je5000004 : q25T → Out × List AV × St := (fun z => (.ret, [.bp 0 0, .bp 1 0, .bp 2 0, .bool z.1, .bp 3 0], [.box [.int .i64 z.2.1, .int .i64 z.2.2.1, .int .i64 z.2.2.2.1, .int .i64 z.2.2.2.2.1, .lst tRange z.2.2.2.2.2.1, .lst tWrite z.2.2.2.2.2.2.1, .bool z.2.2.2.2.2.2.2.1, .str z.2.2.2.2.2.2.2.2.1], .box [.str z.2.2.2.2.2.2.2.2.2.1, .str z.2.2.2.2.2.2.2.2.2.2.1], .box [.int .i64 z.2.2.2.2.2.2.2.2.2.2.2.1, .int .i64 z.2.2.2.2.2.2.2.2.2.2.2.2.1, .int .i64 z.2.2.2.2.2.2.2.2.2.2.2.2.2.1, .int .i64 z.2.2.2.2.2.2.2.2.2.2.2.2.2.2.1, .own 4, .own 5, .bool z.2.2.2.2.2.2.2.2.2.2.2.2.2.2.2.1, .str z.2.2.2.2.2.2.2.2.2.2.2.2.2.2.2.2.1], .box [.int .i64 z.2.2.2.2.2.2.2.2.2.2.2.2.2.2.2.2.2.1, .int .i64 z.2.2.2.2.2.2.2.2.2.2.2.2.2.2.2.2.2.2.1, .int .i64 z.2.2.2.2.2.2.2.2.2.2.2.2.2.2.2.2.2.2.2.1, .int .i64 z.2.2.2.2.2.2.2.2.2.2.2.2.2.2.2.2.2.2.2.2.1, .own 4, .own 5, .bool z.2.2.2.2.2.2.2.2.2.2.2.2.2.2.2.2.2.2.2.2.2.1, .str z.2.2.2.2.2.2.2.2.2.2.2.2.2.2.2.2.2.2.2.2.2.2.1], .arr tRange z.2.2.2.2.2.2.2.2.2.2.2.2.2.2.2.2.2.2.2.2.2.2.2.1, .arr tWrite z.2.2.2.2.2.2.2.2.2.2.2.2.2.2.2.2.2.2.2.2.2.2.2.2]))

theorem n73n_jx5000004 (x : q24T) : exec G31.shallow ⟨0, 51, n73n_loops⟩ (loopBody Try.f156 5000004) (bodyK ⟨0, 51, n73n_loops⟩ [2, 3, 4, 5, 6] [none, none, none, none, none, none, none, none, none, none, none, none, none, none, none, none, none, none, none, some tRange, some tWrite]) (setEs (deads 51) [2, 3, 4, 5, 6] (n73n_jv5000004 x)) (n73n_js5000004 x) = n73n_j5000004 x (fun z => some ⟨(n73n_je5000004 z).1, (n73n_je5000004 z).2.1, (n73n_je5000004 z).2.2⟩) := by
  kernel_rfl

theorem n73n_lo5000004 : ∀ sp, (n73n_loops 5000004) = some sp → CutOk G31.shallow ⟨0, 51, n73n_loops⟩ sp (loopBody Try.f156 5000004) := by
  intro sp hsp vals st k r h
  cases hsp
  dsimp only at h
  rcases onPats_inv2 h with ⟨p, q, rfl, rfl, h⟩ | h
  · exact cut_runs n73n_jp5000004 n73n_jv5000004 n73n_js5000004 n73n_je5000004 n73n_jx5000004 (p.2.2.2.1, q.1.1, q.1.2.1, q.1.2.2.1, q.1.2.2.2.1, q.1.2.2.2.2.1, q.1.2.2.2.2.2.1, q.1.2.2.2.2.2.2.1, q.1.2.2.2.2.2.2.2.1, q.2.1.1, q.2.1.2.1, q.2.2.1.1, q.2.2.1.2.1, q.2.2.1.2.2.1, q.2.2.1.2.2.2.1, q.2.2.1.2.2.2.2.2.2.1, q.2.2.1.2.2.2.2.2.2.2.1, q.2.2.2.1.1, q.2.2.2.1.2.1, q.2.2.2.1.2.2.1, q.2.2.2.1.2.2.2.1, q.2.2.2.1.2.2.2.2.2.2.1, q.2.2.2.1.2.2.2.2.2.2.2.1, q.2.2.2.2.1, q.2.2.2.2.2.1, q.2.2.2.2.2.2.1, q.2.2.2.2.2.2.2.1) _ k r (fun z => rfl) h
  cases h

theorem n73n_y (a0 : Int) (a1 : Int) (a2 : Int) (a3 : Int) (a4 : (List dRange)) (a5 : (List dWrite)) (a6 : Bool) (a7 : ByteArray) (a8 : ByteArray) (a9 : ByteArray) : execFn G31.shallow n73n_loops Try.f156 [.agg [.int .i64 a0, .int .i64 a1, .int .i64 a2, .int .i64 a3, .lst tRange a4, .lst tWrite a5, .bool a6, .str a7], .agg [.str a8, .str a9]] [] = n73n_k (a0, (a1, (a2, (a3, (a4, (a5, (a6, a7))))))) (a8, a9) (fun (y : q41T) => some ⟨.ret, [.tup [.agg [.int .i64 y.1, .int .i64 y.2.1, .int .i64 y.2.2.1, .int .i64 y.2.2.2.1, .own 0, .own 1, .bool y.2.2.2.2.1, .str y.2.2.2.2.2.1], .bool y.2.2.2.2.2.2.1]], [.arr tRange y.2.2.2.2.2.2.2.1, .arr tWrite y.2.2.2.2.2.2.2.2]⟩) := by rw [n73n_e]; kernel_rfl

theorem n73n_l : LoopsOk G31.shallow ⟨0, 51, n73n_loops⟩ (Try.f156.body.getD .skip) :=
  loopsOk_of (ids := [0, 5000004]) (by kernel_rfl) (by kernel_rfl) ⟨n73n_lo0, ⟨n73n_lo5000004, trivial⟩⟩

theorem n73n_c : Contract Try.prog 156 n73n_g := by
  refine told G31_ok.shallow follows Try.func156 (c := Try.f156.body.getD .skip) (by kernel_rfl) ?_
  intro args s k r hk
  unfold n73n_g at hk
  rcases onPats_inv hk with ⟨p, q, rfl, rfl⟩ | hk
  · exact ⟨n73n_loops, n73n_q p.1.1 p.1.2.1 p.1.2.2.1 p.1.2.2.2.1 p.1.2.2.2.2.1 p.1.2.2.2.2.2.1 p.1.2.2.2.2.2.2.1 p.1.2.2.2.2.2.2.2.1 p.2.1.1 p.2.1.2.1, n73n_y p.1.1 p.1.2.1 p.1.2.2.1 p.1.2.2.2.1 p.1.2.2.2.2.1 p.1.2.2.2.2.2.1 p.1.2.2.2.2.2.2.1 p.1.2.2.2.2.2.2.2.1 p.2.1.1 p.2.1.2.1, n73n_l⟩
  cases hk

def G32 : Glob := G31.add 156 n73n_g

theorem G32_ok : GlobOk Try.prog G32 := G31_ok.add ⟨Try.f156, Try.func156, by kernel_rfl, by kernel_rfl⟩ n73n_c



def n79n_loops : Nat → Option LoopSpec
  | 0 => some ⟨[0, 1, 2, 7, 8], [], fun vals st k => onPats [.lst tVersion, .str, .int .i64, .int .i64, .int .i64] [] vals st (fun p q => loopK n79n_b0 Fuel (p.1, p.2.1, p.2.2.1, p.2.2.2.1, p.2.2.2.2.1) (fun z => k (.exit 0) [.lst tVersion z.1, .str z.2.1, .int .i64 z.2.2.1, .int .i64 z.2.2.2.1, .int .i64 z.2.2.2.2] []))
      (none)⟩
  | 2000005 => some ⟨[0, 2, 4, 6, 8, 10, 12, 14, 16, 18, 20, 22, 24, 26, 28, 30, 32, 34, 36, 38, 40, 42, 44, 46, 48, 50, 52, 54, 56, 58, 60, 62, 64], [], fun _ _ _ => none⟩
  | _ => none

def n79n_v0 : q12T → List AV := (fun x => [.lst tVersion x.1, .str x.2.1, .int .i64 x.2.2.1, .int .i64 x.2.2.2.1, .int .i64 x.2.2.2.2])
def n79n_s0 : q12T → St := (fun x => [])
def n79n_e0 : q12T → Out × List AV × St := (fun z => ((.exit 0), [.lst tVersion z.1, .str z.2.1, .int .i64 z.2.2.1, .int .i64 z.2.2.2.1, .int .i64 z.2.2.2.2], []))

theorem n79n_bx0 (x : q12T) : exec G32.shallow ⟨0, 50, n79n_loops⟩ (loopBody Try.f144 0) (bodyK ⟨0, 50, n79n_loops⟩ [0, 1, 2, 7, 8] []) (setEs (deads 50) [0, 1, 2, 7, 8] (n79n_v0 x)) (n79n_s0 x) = n79n_b0 x (Sum.elim (fun y => some ⟨.norm, n79n_v0 y, n79n_s0 y⟩) fun z => some ⟨(n79n_e0 z).1, (n79n_e0 z).2.1, (n79n_e0 z).2.2⟩) := by
  kernel_rfl

theorem n79n_lo0 : ∀ sp, (n79n_loops 0) = some sp → LoopOk G32.shallow ⟨0, 50, n79n_loops⟩ sp (loopBody Try.f144 0) := by
  intro sp hsp vals st k r h
  cases hsp
  dsimp only at h
  rcases onPats_inv2 h with ⟨p, q, rfl, rfl, h⟩ | h
  · exact loop_runs2 n79n_bp0 n79n_v0 n79n_s0 n79n_e0 (fun z => by (intro h; cases h)) n79n_bx0 Fuel (p.1, p.2.1, p.2.2.1, p.2.2.2.1, p.2.2.2.2.1) _ k r (fun z => rfl) h
  cases h

theorem n79n_y (a0 : (List dVersion)) (a1 : ByteArray) (a2 : Int) : execFn G32.shallow n79n_loops Try.f144 [.lst tVersion a0, .str a1, .int .i64 a2] [] = n79n_k a0 a1 a2 (fun (y : Int) => some ⟨.ret, [.int .i64 y], []⟩) := by rw [n79n_e]; kernel_rfl

theorem n79n_l : LoopsOk G32.shallow ⟨0, 50, n79n_loops⟩ (Try.f144.body.getD .skip) :=
  loopsOk_of (ids := [0]) (by kernel_rfl) (by kernel_rfl) ⟨n79n_lo0, trivial⟩

theorem n79n_c : Contract Try.prog 144 n79n_g := by
  refine told G32_ok.shallow follows Try.func144 (c := Try.f144.body.getD .skip) (by kernel_rfl) ?_
  intro args s k r hk
  unfold n79n_g at hk
  rcases onPats_inv hk with ⟨p, q, rfl, rfl⟩ | hk
  · exact ⟨n79n_loops, n79n_q p.1 p.2.1 p.2.2.1, n79n_y p.1 p.2.1 p.2.2.1, n79n_l⟩
  cases hk

def G33 : Glob := G32.add 144 n79n_g

theorem G33_ok : GlobOk Try.prog G33 := G32_ok.add ⟨Try.f144, Try.func144, by kernel_rfl, by kernel_rfl⟩ n79n_c



def n74n_loops : Nat → Option LoopSpec
  | _ => none

theorem n74n_y (a0 : (List dVersion)) (a1 : ByteArray) (a2 : Int) : execFn G33.shallow n74n_loops Try.f62 [.lst tVersion a0, .str a1, .int .i64 a2] [] = n74n_k a0 a1 a2 (fun (y : (ByteArray × Bool)) => some ⟨.ret, [.tup [.str y.1, .bool y.2]], []⟩) := by rw [n74n_e]; kernel_rfl

theorem n74n_l : LoopsOk G33.shallow ⟨0, 27, n74n_loops⟩ (Try.f62.body.getD .skip) :=
  loopsOk_of (ids := []) (by kernel_rfl) (by kernel_rfl) trivial

theorem n74n_c : Contract Try.prog 62 n74n_g := by
  refine told G33_ok.shallow follows Try.func62 (c := Try.f62.body.getD .skip) (by kernel_rfl) ?_
  intro args s k r hk
  unfold n74n_g at hk
  rcases onPats_inv hk with ⟨p, q, rfl, rfl⟩ | hk
  · exact ⟨n74n_loops, n74n_q p.1 p.2.1 p.2.2.1, n74n_y p.1 p.2.1 p.2.2.1, n74n_l⟩
  cases hk

def G34 : Glob := G33.add 62 n74n_g

theorem G34_ok : GlobOk Try.prog G34 := G33_ok.add ⟨Try.f62, Try.func62, by kernel_rfl, by kernel_rfl⟩ n74n_c



def n71n_loops : Nat → Option LoopSpec
  | 0 => some ⟨[1, 2, 3, 6, 7, 8], [], fun vals st k => onPats [.lst tVersion, .str, .bp 0 0, .str, .bool, .int .i64] [.box [.int .i64, .int .i64, .int .i64, .int .i64, .lst tRange, .lst tWrite, .bool, .str]] vals st (fun p q => loopK n71n_b0 Fuel (p.1, p.2.1, p.2.2.2.1, p.2.2.2.2.1, p.2.2.2.2.2.1, q.1.1, q.1.2.1, q.1.2.2.1, q.1.2.2.2.1, q.1.2.2.2.2.1, q.1.2.2.2.2.2.1, q.1.2.2.2.2.2.2.1, q.1.2.2.2.2.2.2.2.1) (Sum.elim (fun z => k .ret [.lst tVersion z.1, .str z.2.1, .bp 0 0, .str z.2.2.1, .bool z.2.2.2.1, .int .i64 z.2.2.2.2.1] [.box [.int .i64 z.2.2.2.2.2.1, .int .i64 z.2.2.2.2.2.2.1, .int .i64 z.2.2.2.2.2.2.2.1, .int .i64 z.2.2.2.2.2.2.2.2.1, .lst tRange z.2.2.2.2.2.2.2.2.2.1, .lst tWrite z.2.2.2.2.2.2.2.2.2.2.1, .bool z.2.2.2.2.2.2.2.2.2.2.2.1, .str z.2.2.2.2.2.2.2.2.2.2.2.2]]) (fun z => k (.exit 0) [.lst tVersion z.1, .str z.2.1, .bp 0 0, .str z.2.2.1, .bool z.2.2.2.1, .int .i64 z.2.2.2.2.1] [.box [.int .i64 z.2.2.2.2.2.1, .int .i64 z.2.2.2.2.2.2.1, .int .i64 z.2.2.2.2.2.2.2.1, .int .i64 z.2.2.2.2.2.2.2.2.1, .lst tRange z.2.2.2.2.2.2.2.2.2.1, .lst tWrite z.2.2.2.2.2.2.2.2.2.2.1, .bool z.2.2.2.2.2.2.2.2.2.2.2.1, .str z.2.2.2.2.2.2.2.2.2.2.2.2]])))
      (none)⟩
  | _ => none

def n71n_v0 : q10T → List AV := (fun x => [.lst tVersion x.1, .str x.2.1, .bp 0 0, .str x.2.2.1, .bool x.2.2.2.1, .int .i64 x.2.2.2.2.1])
def n71n_s0 : q10T → St := (fun x => [.box [.int .i64 x.2.2.2.2.2.1, .int .i64 x.2.2.2.2.2.2.1, .int .i64 x.2.2.2.2.2.2.2.1, .int .i64 x.2.2.2.2.2.2.2.2.1, .lst tRange x.2.2.2.2.2.2.2.2.2.1, .lst tWrite x.2.2.2.2.2.2.2.2.2.2.1, .bool x.2.2.2.2.2.2.2.2.2.2.2.1, .str x.2.2.2.2.2.2.2.2.2.2.2.2]])
def n71n_e0 : (q10T ⊕ q10T) → Out × List AV × St := (Sum.elim (fun z => (.ret, [.lst tVersion z.1, .str z.2.1, .bp 0 0, .str z.2.2.1, .bool z.2.2.2.1, .int .i64 z.2.2.2.2.1], [.box [.int .i64 z.2.2.2.2.2.1, .int .i64 z.2.2.2.2.2.2.1, .int .i64 z.2.2.2.2.2.2.2.1, .int .i64 z.2.2.2.2.2.2.2.2.1, .lst tRange z.2.2.2.2.2.2.2.2.2.1, .lst tWrite z.2.2.2.2.2.2.2.2.2.2.1, .bool z.2.2.2.2.2.2.2.2.2.2.2.1, .str z.2.2.2.2.2.2.2.2.2.2.2.2]])) (fun z => ((.exit 0), [.lst tVersion z.1, .str z.2.1, .bp 0 0, .str z.2.2.1, .bool z.2.2.2.1, .int .i64 z.2.2.2.2.1], [.box [.int .i64 z.2.2.2.2.2.1, .int .i64 z.2.2.2.2.2.2.1, .int .i64 z.2.2.2.2.2.2.2.1, .int .i64 z.2.2.2.2.2.2.2.2.1, .lst tRange z.2.2.2.2.2.2.2.2.2.1, .lst tWrite z.2.2.2.2.2.2.2.2.2.2.1, .bool z.2.2.2.2.2.2.2.2.2.2.2.1, .str z.2.2.2.2.2.2.2.2.2.2.2.2]])))

theorem n71n_bx0 (x : q10T) : exec G34.shallow ⟨0, 43, n71n_loops⟩ (loopBody Try.f92 0) (bodyK ⟨0, 43, n71n_loops⟩ [1, 2, 3, 6, 7, 8] []) (setEs (deads 43) [1, 2, 3, 6, 7, 8] (n71n_v0 x)) (n71n_s0 x) = n71n_b0 x (Sum.elim (fun y => some ⟨.norm, n71n_v0 y, n71n_s0 y⟩) fun z => some ⟨(n71n_e0 z).1, (n71n_e0 z).2.1, (n71n_e0 z).2.2⟩) := by
  kernel_rfl

theorem n71n_lo0 : ∀ sp, (n71n_loops 0) = some sp → LoopOk G34.shallow ⟨0, 43, n71n_loops⟩ sp (loopBody Try.f92 0) := by
  intro sp hsp vals st k r h
  cases hsp
  dsimp only at h
  rcases onPats_inv2 h with ⟨p, q, rfl, rfl, h⟩ | h
  · exact loop_runs2 n71n_bp0 n71n_v0 n71n_s0 n71n_e0 (fun z => by rcases z with z | z <;> (intro h; cases h)) n71n_bx0 Fuel (p.1, p.2.1, p.2.2.2.1, p.2.2.2.2.1, p.2.2.2.2.2.1, q.1.1, q.1.2.1, q.1.2.2.1, q.1.2.2.2.1, q.1.2.2.2.2.1, q.1.2.2.2.2.2.1, q.1.2.2.2.2.2.2.1, q.1.2.2.2.2.2.2.2.1) _ k r (fun z => by rcases z with z | z <;> rfl) h
  cases h

theorem n71n_y (a0 : Int) (a1 : Int) (a2 : Int) (a3 : Int) (a4 : (List dRange)) (a5 : (List dWrite)) (a6 : Bool) (a7 : ByteArray) (a8 : (List dVersion)) (a9 : ByteArray) : execFn G34.shallow n71n_loops Try.f92 [.agg [.int .i64 a0, .int .i64 a1, .int .i64 a2, .int .i64 a3, .lst tRange a4, .lst tWrite a5, .bool a6, .str a7], .lst tVersion a8, .str a9] [] = n71n_k (a0, (a1, (a2, (a3, (a4, (a5, (a6, a7))))))) a8 a9 (fun (y : (ByteArray × Bool)) => some ⟨.ret, [.tup [.str y.1, .bool y.2]], []⟩) := by rw [n71n_e]; kernel_rfl

theorem n71n_l : LoopsOk G34.shallow ⟨0, 43, n71n_loops⟩ (Try.f92.body.getD .skip) :=
  loopsOk_of (ids := [0]) (by kernel_rfl) (by kernel_rfl) ⟨n71n_lo0, trivial⟩

theorem n71n_c : Contract Try.prog 92 n71n_g := by
  refine told G34_ok.shallow follows Try.func92 (c := Try.f92.body.getD .skip) (by kernel_rfl) ?_
  intro args s k r hk
  unfold n71n_g at hk
  rcases onPats_inv hk with ⟨p, q, rfl, rfl⟩ | hk
  · exact ⟨n71n_loops, n71n_q p.1.1 p.1.2.1 p.1.2.2.1 p.1.2.2.2.1 p.1.2.2.2.2.1 p.1.2.2.2.2.2.1 p.1.2.2.2.2.2.2.1 p.1.2.2.2.2.2.2.2.1 p.2.1 p.2.2.1, n71n_y p.1.1 p.1.2.1 p.1.2.2.1 p.1.2.2.2.1 p.1.2.2.2.2.1 p.1.2.2.2.2.2.1 p.1.2.2.2.2.2.2.1 p.1.2.2.2.2.2.2.2.1 p.2.1 p.2.2.1, n71n_l⟩
  cases hk

def G35 : Glob := G34.add 92 n71n_g

theorem G35_ok : GlobOk Try.prog G35 := G34_ok.add ⟨Try.f92, Try.func92, by kernel_rfl, by kernel_rfl⟩ n71n_c



def n68n_loops : Nat → Option LoopSpec
  | _ => none

theorem n68n_y (a0 : (List dVersion)) (a1 : (List dTxn)) (a2 : (List dTxn)) (a3 : Int) (a4 : Int) (a5 : (List dTxn)) (a6 : Int) (a7 : ByteArray) : execFn G35.shallow n68n_loops Try.f70 [.agg [.lst tVersion a0, .lst tTxn a1, .lst tTxn a2, .int .i64 a3, .int .i64 a4, .lst tTxn a5], .int .i64 a6, .str a7] [] = n68n_k ((a0, (a1, (a2, (a3, a4)))), a5) a6 a7 (fun (y : q37T) => some ⟨.ret, [.tup [.agg [.own 0, .own 1, .own 2, .int .i64 y.1, .int .i64 y.2.1, .own 3], .str y.2.2.1, .bool y.2.2.2.1, .int .i64 y.2.2.2.2.1]], [.arr tVersion y.2.2.2.2.2.1, .arr tTxn y.2.2.2.2.2.2.1, .arr tTxn y.2.2.2.2.2.2.2.1, .arr tTxn y.2.2.2.2.2.2.2.2]⟩) := by rw [n68n_e]; kernel_rfl

theorem n68n_l : LoopsOk G35.shallow ⟨0, 60, n68n_loops⟩ (Try.f70.body.getD .skip) :=
  loopsOk_of (ids := []) (by kernel_rfl) (by kernel_rfl) trivial

theorem n68n_c : Contract Try.prog 70 n68n_g := by
  refine told G35_ok.shallow follows Try.func70 (c := Try.f70.body.getD .skip) (by kernel_rfl) ?_
  intro args s k r hk
  unfold n68n_g at hk
  rcases onPats_inv hk with ⟨p, q, rfl, rfl⟩ | hk
  · exact ⟨n68n_loops, n68n_q p.1.1 p.1.2.1 p.1.2.2.1 p.1.2.2.2.1 p.1.2.2.2.2.1 p.1.2.2.2.2.2.1 p.2.1 p.2.2.1, n68n_y p.1.1 p.1.2.1 p.1.2.2.1 p.1.2.2.2.1 p.1.2.2.2.2.1 p.1.2.2.2.2.2.1 p.2.1 p.2.2.1, n68n_l⟩
  cases hk

def G36 : Glob := G35.add 70 n68n_g

theorem G36_ok : GlobOk Try.prog G36 := G35_ok.add ⟨Try.f70, Try.func70, by kernel_rfl, by kernel_rfl⟩ n68n_c



def n19n_loops : Nat → Option LoopSpec
  | _ => none

theorem n19n_y (a0 : Int) (a1 : Int) (a2 : Int) : execFn G36 n19n_loops Try.f145 [.int .i64 a0, .int .i64 a1, .int .i64 a2] [] = n19n_k a0 a1 a2 (fun (y : Bool) => some ⟨.ret, [.bool y], []⟩) := by rw [n19n_e]; kernel_rfl

theorem n19n_l : LoopsOk G36 ⟨0, 15, n19n_loops⟩ (Try.f145.body.getD .skip) :=
  loopsOk_of (ids := []) (by kernel_rfl) (by kernel_rfl) trivial

theorem n19n_c : Contract Try.prog 145 n19n_g := by
  refine told G36_ok follows Try.func145 (c := Try.f145.body.getD .skip) (by kernel_rfl) ?_
  intro args s k r hk
  unfold n19n_g at hk
  rcases onPats_inv hk with ⟨p, q, rfl, rfl⟩ | hk
  · exact ⟨n19n_loops, n19n_q p.1 p.2.1 p.2.2.1, n19n_y p.1 p.2.1 p.2.2.1, n19n_l⟩
  cases hk

def G37 : Glob := G36.add 145 n19n_g

theorem G37_ok : GlobOk Try.prog G37 := G36_ok.add ⟨Try.f145, Try.func145, by kernel_rfl, by kernel_rfl⟩ n19n_c



def n01n_loops : Nat → Option LoopSpec
  | 0 => some ⟨[0, 2, 3], [], fun vals st k => onPats [.str, .bool, .int .i64] [] vals st (fun p q => loopK n01n_b0 Fuel (p.1, p.2.1, p.2.2.1) (Sum.elim (fun z => k .ret [.str z.1, .bool z.2.1, .int .i64 z.2.2] []) (fun z => k (.exit 0) [.str z.1, .bool z.2.1, .int .i64 z.2.2] [])))
      (none)⟩
  | _ => none

def n01n_v0 : (ByteArray × Bool × Int) → List AV := (fun x => [.str x.1, .bool x.2.1, .int .i64 x.2.2])
def n01n_s0 : (ByteArray × Bool × Int) → St := (fun x => [])
def n01n_e0 : ((ByteArray × Bool × Int) ⊕ (ByteArray × Bool × Int)) → Out × List AV × St := (Sum.elim (fun z => (.ret, [.str z.1, .bool z.2.1, .int .i64 z.2.2], [])) (fun z => ((.exit 0), [.str z.1, .bool z.2.1, .int .i64 z.2.2], [])))

theorem n01n_bx0 (x : (ByteArray × Bool × Int)) : exec G37 ⟨0, 23, n01n_loops⟩ (loopBody Try.f103 0) (bodyK ⟨0, 23, n01n_loops⟩ [0, 2, 3] []) (setEs (deads 23) [0, 2, 3] (n01n_v0 x)) (n01n_s0 x) = n01n_b0 x (Sum.elim (fun y => some ⟨.norm, n01n_v0 y, n01n_s0 y⟩) fun z => some ⟨(n01n_e0 z).1, (n01n_e0 z).2.1, (n01n_e0 z).2.2⟩) := by
  kernel_rfl

theorem n01n_lo0 : ∀ sp, (n01n_loops 0) = some sp → LoopOk G37 ⟨0, 23, n01n_loops⟩ sp (loopBody Try.f103 0) := by
  intro sp hsp vals st k r h
  cases hsp
  dsimp only at h
  rcases onPats_inv2 h with ⟨p, q, rfl, rfl, h⟩ | h
  · exact loop_runs2 n01n_bp0 n01n_v0 n01n_s0 n01n_e0 (fun z => by rcases z with z | z <;> (intro h; cases h)) n01n_bx0 Fuel (p.1, p.2.1, p.2.2.1) _ k r (fun z => by rcases z with z | z <;> rfl) h
  cases h

theorem n01n_y (a0 : ByteArray) : execFn G37 n01n_loops Try.f103 [.str a0] [] = n01n_k a0 (fun (y : Bool) => some ⟨.ret, [.bool y], []⟩) := by rw [n01n_e]; kernel_rfl

theorem n01n_l : LoopsOk G37 ⟨0, 23, n01n_loops⟩ (Try.f103.body.getD .skip) :=
  loopsOk_of (ids := [0]) (by kernel_rfl) (by kernel_rfl) ⟨n01n_lo0, trivial⟩

theorem n01n_c : Contract Try.prog 103 n01n_g := by
  refine told G37_ok follows Try.func103 (c := Try.f103.body.getD .skip) (by kernel_rfl) ?_
  intro args s k r hk
  unfold n01n_g at hk
  rcases onPats_inv hk with ⟨p, q, rfl, rfl⟩ | hk
  · exact ⟨n01n_loops, n01n_q p.1, n01n_y p.1, n01n_l⟩
  cases hk

def G38 : Glob := G37.add 103 n01n_g

theorem G38_ok : GlobOk Try.prog G38 := G37_ok.add ⟨Try.f103, Try.func103, by kernel_rfl, by kernel_rfl⟩ n01n_c



def n13n_loops : Nat → Option LoopSpec
  | _ => none

theorem n13n_y (a0 : Int) (a1 : Int) (a2 : Int) (a3 : Int) (a4 : (List dRange)) (a5 : (List dWrite)) (a6 : Bool) (a7 : ByteArray) : execFn G38 n13n_loops Try.f254 [.agg [.int .i64 a0, .int .i64 a1, .int .i64 a2, .int .i64 a3, .lst tRange a4, .lst tWrite a5, .bool a6, .str a7]] [] = n13n_k (a0, (a1, (a2, (a3, (a4, (a5, (a6, a7))))))) (fun (y : q40T) => some ⟨.ret, [.agg [.int .i64 y.1, .int .i64 y.2.1, .int .i64 y.2.2.1, .int .i64 y.2.2.2.1, .own 0, .own 1, .bool y.2.2.2.2.1, .str y.2.2.2.2.2.1]], [.arr tRange y.2.2.2.2.2.2.1, .arr tWrite y.2.2.2.2.2.2.2]⟩) := by rw [n13n_e]; kernel_rfl

theorem n13n_l : LoopsOk G38 ⟨0, 12, n13n_loops⟩ (Try.f254.body.getD .skip) :=
  loopsOk_of (ids := []) (by kernel_rfl) (by kernel_rfl) trivial

theorem n13n_c : Contract Try.prog 254 n13n_g := by
  refine told G38_ok follows Try.func254 (c := Try.f254.body.getD .skip) (by kernel_rfl) ?_
  intro args s k r hk
  unfold n13n_g at hk
  rcases onPats_inv hk with ⟨p, q, rfl, rfl⟩ | hk
  · exact ⟨n13n_loops, n13n_q p.1.1 p.1.2.1 p.1.2.2.1 p.1.2.2.2.1 p.1.2.2.2.2.1 p.1.2.2.2.2.2.1 p.1.2.2.2.2.2.2.1 p.1.2.2.2.2.2.2.2.1, n13n_y p.1.1 p.1.2.1 p.1.2.2.1 p.1.2.2.2.1 p.1.2.2.2.2.1 p.1.2.2.2.2.2.1 p.1.2.2.2.2.2.2.1 p.1.2.2.2.2.2.2.2.1, n13n_l⟩
  cases hk

def G39 : Glob := G38.add 254 n13n_g

theorem G39_ok : GlobOk Try.prog G39 := G38_ok.add ⟨Try.f254, Try.func254, by kernel_rfl, by kernel_rfl⟩ n13n_c



def n14n_loops : Nat → Option LoopSpec
  | 0 => some ⟨[3, 6, 7, 8], [some tTxn], fun vals st k => onPats [.own 0, .lst tTxn, .int .i64, .int .i64] [.dep tTxn 0] vals st (fun p q => loopK n14n_b0 Fuel (p.2.1, p.2.2.1, p.2.2.2.1, q.1) (fun z => k (.exit 0) [.own 0, .lst tTxn z.1, .int .i64 z.2.1, .int .i64 z.2.2.1] [.dep tTxn z.2.2.2 0]))
      (none)⟩
  | _ => none

def n14n_v0 : q6T → List AV := (fun x => [.own 0, .lst tTxn x.1, .int .i64 x.2.1, .int .i64 x.2.2.1])
def n14n_s0 : q6T → St := (fun x => [.dep tTxn x.2.2.2 0])
def n14n_e0 : q6T → Out × List AV × St := (fun z => ((.exit 0), [.own 0, .lst tTxn z.1, .int .i64 z.2.1, .int .i64 z.2.2.1], [.dep tTxn z.2.2.2 0]))

theorem n14n_bx0 (x : q6T) : exec G39 ⟨0, 19, n14n_loops⟩ (loopBody Try.f195 0) (bodyK ⟨0, 19, n14n_loops⟩ [3, 6, 7, 8] [some tTxn]) (setEs (deads 19) [3, 6, 7, 8] (n14n_v0 x)) (n14n_s0 x) = n14n_b0 x (Sum.elim (fun y => some ⟨.norm, n14n_v0 y, n14n_s0 y⟩) fun z => some ⟨(n14n_e0 z).1, (n14n_e0 z).2.1, (n14n_e0 z).2.2⟩) := by
  kernel_rfl

theorem n14n_lo0 : ∀ sp, (n14n_loops 0) = some sp → LoopOk G39 ⟨0, 19, n14n_loops⟩ sp (loopBody Try.f195 0) := by
  intro sp hsp vals st k r h
  cases hsp
  dsimp only at h
  rcases onPats_inv2 h with ⟨p, q, rfl, rfl, h⟩ | h
  · exact loop_runs2 n14n_bp0 n14n_v0 n14n_s0 n14n_e0 (fun z => by (intro h; cases h)) n14n_bx0 Fuel (p.2.1, p.2.2.1, p.2.2.2.1, q.1) _ k r (fun z => rfl) h
  cases h

theorem n14n_y (a0 : (List dTxn)) : execFn G39 n14n_loops Try.f195 [.lst tTxn a0] [] = n14n_k a0 (fun (y : (List dTxn)) => some ⟨.ret, [.own 0], [.dep tTxn y 0]⟩) := by rw [n14n_e]; kernel_rfl

theorem n14n_l : LoopsOk G39 ⟨0, 19, n14n_loops⟩ (Try.f195.body.getD .skip) :=
  loopsOk_of (ids := [0]) (by kernel_rfl) (by kernel_rfl) ⟨n14n_lo0, trivial⟩

theorem n14n_c : Contract Try.prog 195 n14n_g := by
  refine told G39_ok follows Try.func195 (c := Try.f195.body.getD .skip) (by kernel_rfl) ?_
  intro args s k r hk
  unfold n14n_g at hk
  rcases onPats_inv hk with ⟨p, q, rfl, rfl⟩ | hk
  · exact ⟨n14n_loops, n14n_q p.1, n14n_y p.1, n14n_l⟩
  cases hk

def G40 : Glob := G39.add 195 n14n_g

theorem G40_ok : GlobOk Try.prog G40 := G39_ok.add ⟨Try.f195, Try.func195, by kernel_rfl, by kernel_rfl⟩ n14n_c



def n11n_loops : Nat → Option LoopSpec
  | 2000002 => some ⟨[0, 2, 6, 8, 5, 12, 11, 14, 16, 18], [], fun _ _ _ => none⟩
  | _ => none

theorem n11n_y (a0 : (List dVersion)) (a1 : (List dTxn)) (a2 : (List dTxn)) (a3 : Int) (a4 : Int) : execFn G40 n11n_loops Try.f116 [.agg [.lst tVersion a0, .lst tTxn a1, .lst tTxn a2, .int .i64 a3, .int .i64 a4]] [] = n11n_k (a0, (a1, (a2, (a3, a4)))) (fun (y : q36T) => some ⟨.ret, [.agg [.own 0, .own 1, .own 2, .int .i64 y.1, .int .i64 y.2.1]], [.arr tVersion y.2.2.1, .dep tTxn y.2.2.2.1 0, .dep tTxn y.2.2.2.2 0]⟩) := by rw [n11n_e]; kernel_rfl

theorem n11n_l : LoopsOk G40 ⟨0, 16, n11n_loops⟩ (Try.f116.body.getD .skip) :=
  loopsOk_of (ids := []) (by kernel_rfl) (by kernel_rfl) trivial

theorem n11n_c : Contract Try.prog 116 n11n_g := by
  refine told G40_ok follows Try.func116 (c := Try.f116.body.getD .skip) (by kernel_rfl) ?_
  intro args s k r hk
  unfold n11n_g at hk
  rcases onPats_inv hk with ⟨p, q, rfl, rfl⟩ | hk
  · exact ⟨n11n_loops, n11n_q p.1.1 p.1.2.1 p.1.2.2.1 p.1.2.2.2.1 p.1.2.2.2.2.1, n11n_y p.1.1 p.1.2.1 p.1.2.2.1 p.1.2.2.2.1 p.1.2.2.2.2.1, n11n_l⟩
  cases hk

def G41 : Glob := G40.add 116 n11n_g

theorem G41_ok : GlobOk Try.prog G41 := G40_ok.add ⟨Try.f116, Try.func116, by kernel_rfl, by kernel_rfl⟩ n11n_c



def n12n_loops : Nat → Option LoopSpec
  | 2000001 => some ⟨[0, 2, 6, 8, 5, 11, 12, 14], [], fun _ _ _ => none⟩
  | _ => none

theorem n12n_y (a0 : (List dVersion)) (a1 : (List dTxn)) (a2 : (List dTxn)) (a3 : Int) (a4 : Int) (a5 : (List dTxn)) : execFn G41 n12n_loops Try.f213 [.agg [.lst tVersion a0, .lst tTxn a1, .lst tTxn a2, .int .i64 a3, .int .i64 a4, .lst tTxn a5]] [] = n12n_k ((a0, (a1, (a2, (a3, a4)))), a5) (fun (y : q35T) => some ⟨.ret, [.agg [.own 0, .own 1, .own 2, .int .i64 y.1, .int .i64 y.2.1, .own 3]], [.arr tVersion y.2.2.1, .dep tTxn y.2.2.2.1 0, .dep tTxn y.2.2.2.2.1 0, .dep tTxn y.2.2.2.2.2 0]⟩) := by rw [n12n_e]; kernel_rfl

theorem n12n_l : LoopsOk G41 ⟨0, 10, n12n_loops⟩ (Try.f213.body.getD .skip) :=
  loopsOk_of (ids := []) (by kernel_rfl) (by kernel_rfl) trivial

theorem n12n_c : Contract Try.prog 213 n12n_g := by
  refine told G41_ok follows Try.func213 (c := Try.f213.body.getD .skip) (by kernel_rfl) ?_
  intro args s k r hk
  unfold n12n_g at hk
  rcases onPats_inv hk with ⟨p, q, rfl, rfl⟩ | hk
  · exact ⟨n12n_loops, n12n_q p.1.1 p.1.2.1 p.1.2.2.1 p.1.2.2.2.1 p.1.2.2.2.2.1 p.1.2.2.2.2.2.1, n12n_y p.1.1 p.1.2.1 p.1.2.2.1 p.1.2.2.2.1 p.1.2.2.2.2.1 p.1.2.2.2.2.2.1, n12n_l⟩
  cases hk

def G42 : Glob := G41.add 213 n12n_g

theorem G42_ok : GlobOk Try.prog G42 := G41_ok.add ⟨Try.f213, Try.func213, by kernel_rfl, by kernel_rfl⟩ n12n_c



def n03n_loops : Nat → Option LoopSpec
  | _ => none

theorem n03n_y (a0 : Int) (a1 : Int) (a2 : Int) (a3 : Int) (a4 : (List dRange)) (a5 : (List dWrite)) (a6 : Bool) (a7 : ByteArray) (a8 : Int) : execFn G42 n03n_loops Try.f215 [.agg [.int .i64 a0, .int .i64 a1, .int .i64 a2, .int .i64 a3, .lst tRange a4, .lst tWrite a5, .bool a6, .str a7], .bp 0 0] [.box [.int .i64 a8]] = n03n_k (a0, (a1, (a2, (a3, (a4, (a5, (a6, a7))))))) a8 (fun (y : (Bool × Int)) => some ⟨.ret, [.bool y.1], [.box [.int .i64 y.2]]⟩) := by rw [n03n_e]; kernel_rfl

theorem n03n_l : LoopsOk G42 ⟨1, 8, n03n_loops⟩ (Try.f215.body.getD .skip) :=
  loopsOk_of (ids := []) (by kernel_rfl) (by kernel_rfl) trivial

theorem n03n_c : Contract Try.prog 215 n03n_g := by
  refine told G42_ok follows Try.func215 (c := Try.f215.body.getD .skip) (by kernel_rfl) ?_
  intro args s k r hk
  unfold n03n_g at hk
  rcases onPats_inv hk with ⟨p, q, rfl, rfl⟩ | hk
  · exact ⟨n03n_loops, n03n_q p.1.1 p.1.2.1 p.1.2.2.1 p.1.2.2.2.1 p.1.2.2.2.2.1 p.1.2.2.2.2.2.1 p.1.2.2.2.2.2.2.1 p.1.2.2.2.2.2.2.2.1 q.1.1, n03n_y p.1.1 p.1.2.1 p.1.2.2.1 p.1.2.2.2.1 p.1.2.2.2.2.1 p.1.2.2.2.2.2.1 p.1.2.2.2.2.2.2.1 p.1.2.2.2.2.2.2.2.1 q.1.1, n03n_l⟩
  cases hk

def G43 : Glob := G42.add 215 n03n_g

theorem G43_ok : GlobOk Try.prog G43 := G42_ok.add ⟨Try.f215, Try.func215, by kernel_rfl, by kernel_rfl⟩ n03n_c



def n65n_loops : Nat → Option LoopSpec
  | 0 => some ⟨[0, 1, 4, 7, 8], [], fun vals st k => onPats [.lst tTxn, .fn 215 [.bp 0 0], .int .i64, .int .i64, .int .i64] [.box [.int .i64]] vals st (fun p q => loopK n65n_b0 Fuel (p.1, p.2.2.1, p.2.2.2.1, p.2.2.2.2.1, q.1.1) (Sum.elim (fun z => k .ret [.lst tTxn z.1, .fn 215 [.bp 0 0], .int .i64 z.2.1, .int .i64 z.2.2.1, .int .i64 z.2.2.2.1] [.box [.int .i64 z.2.2.2.2]]) (fun z => k (.exit 0) [.lst tTxn z.1, .fn 215 [.bp 0 0], .int .i64 z.2.1, .int .i64 z.2.2.1, .int .i64 z.2.2.2.1] [.box [.int .i64 z.2.2.2.2]])))
      (none)⟩
  | _ => none

def n65n_v0 : q7T → List AV := (fun x => [.lst tTxn x.1, .fn 215 [.bp 0 0], .int .i64 x.2.1, .int .i64 x.2.2.1, .int .i64 x.2.2.2.1])
def n65n_s0 : q7T → St := (fun x => [.box [.int .i64 x.2.2.2.2]])
def n65n_e0 : (q7T ⊕ q7T) → Out × List AV × St := (Sum.elim (fun z => (.ret, [.lst tTxn z.1, .fn 215 [.bp 0 0], .int .i64 z.2.1, .int .i64 z.2.2.1, .int .i64 z.2.2.2.1], [.box [.int .i64 z.2.2.2.2]])) (fun z => ((.exit 0), [.lst tTxn z.1, .fn 215 [.bp 0 0], .int .i64 z.2.1, .int .i64 z.2.2.1, .int .i64 z.2.2.2.1], [.box [.int .i64 z.2.2.2.2]])))

theorem n65n_bx0 (x : q7T) : exec G43 ⟨1, 19, n65n_loops⟩ (loopBody Try.f196 0) (bodyK ⟨1, 19, n65n_loops⟩ [0, 1, 4, 7, 8] []) (setEs (deads 19) [0, 1, 4, 7, 8] (n65n_v0 x)) (n65n_s0 x) = n65n_b0 x (Sum.elim (fun y => some ⟨.norm, n65n_v0 y, n65n_s0 y⟩) fun z => some ⟨(n65n_e0 z).1, (n65n_e0 z).2.1, (n65n_e0 z).2.2⟩) := by
  kernel_rfl

theorem n65n_lo0 : ∀ sp, (n65n_loops 0) = some sp → LoopOk G43 ⟨1, 19, n65n_loops⟩ sp (loopBody Try.f196 0) := by
  intro sp hsp vals st k r h
  cases hsp
  dsimp only at h
  rcases onPats_inv2 h with ⟨p, q, rfl, rfl, h⟩ | h
  · exact loop_runs2 n65n_bp0 n65n_v0 n65n_s0 n65n_e0 (fun z => by rcases z with z | z <;> (intro h; cases h)) n65n_bx0 Fuel (p.1, p.2.2.1, p.2.2.2.1, p.2.2.2.2.1, q.1.1) _ k r (fun z => by rcases z with z | z <;> rfl) h
  cases h

theorem n65n_y (a0 : (List dTxn)) (a1 : Int) : execFn G43 n65n_loops Try.f196 [.lst tTxn a0, .fn 215 [.bp 0 0]] [.box [.int .i64 a1]] = n65n_k a0 a1 (fun (y : (Int × Int)) => some ⟨.ret, [.int .i64 y.1], [.box [.int .i64 y.2]]⟩) := by rw [n65n_e]; kernel_rfl

theorem n65n_l : LoopsOk G43 ⟨1, 19, n65n_loops⟩ (Try.f196.body.getD .skip) :=
  loopsOk_of (ids := [0]) (by kernel_rfl) (by kernel_rfl) ⟨n65n_lo0, trivial⟩

theorem slices_IndexFunc_Txn_c : Contract Try.prog 196 slices_IndexFunc_Txn_g := by
  refine told G43_ok follows Try.func196 (c := Try.f196.body.getD .skip) (by kernel_rfl) ?_
  intro args s k r hk
  unfold slices_IndexFunc_Txn_g at hk
  rcases onPats_inv hk with ⟨p, q, rfl, rfl⟩ | hk
  · exact ⟨n65n_loops, n65n_q p.1 q.1.1, n65n_y p.1 q.1.1, n65n_l⟩
  cases hk

def G44 : Glob := G43.add 196 slices_IndexFunc_Txn_g

theorem G44_ok : GlobOk Try.prog G44 := G43_ok.add ⟨Try.f196, Try.func196, by kernel_rfl, by kernel_rfl⟩ slices_IndexFunc_Txn_c



def n02n_loops : Nat → Option LoopSpec
  | _ => none

theorem n02n_y (a0 : (List dVersion)) (a1 : (List dTxn)) (a2 : (List dTxn)) (a3 : Int) (a4 : Int) (a5 : (List dTxn)) (a6 : Int) : execFn G44 n02n_loops Try.f150 [.agg [.lst tVersion a0, .lst tTxn a1, .lst tTxn a2, .int .i64 a3, .int .i64 a4, .lst tTxn a5], .int .i64 a6] [] = n02n_k ((a0, (a1, (a2, (a3, a4)))), a5) a6 (fun (y : Int) => some ⟨.ret, [.int .i64 y], []⟩) := by rw [n02n_e]; kernel_rfl

theorem n02n_l : LoopsOk G44 ⟨0, 9, n02n_loops⟩ (Try.f150.body.getD .skip) :=
  loopsOk_of (ids := []) (by kernel_rfl) (by kernel_rfl) trivial

theorem n02n_c : Contract Try.prog 150 n02n_g := by
  refine told G44_ok follows Try.func150 (c := Try.f150.body.getD .skip) (by kernel_rfl) ?_
  intro args s k r hk
  unfold n02n_g at hk
  rcases onPats_inv hk with ⟨p, q, rfl, rfl⟩ | hk
  · exact ⟨n02n_loops, n02n_q p.1.1 p.1.2.1 p.1.2.2.1 p.1.2.2.2.1 p.1.2.2.2.2.1 p.1.2.2.2.2.2.1 p.2.1, n02n_y p.1.1 p.1.2.1 p.1.2.2.1 p.1.2.2.2.1 p.1.2.2.2.2.1 p.1.2.2.2.2.2.1 p.2.1, n02n_l⟩
  cases hk

def G45 : Glob := G44.add 150 n02n_g

theorem G45_ok : GlobOk Try.prog G45 := G44_ok.add ⟨Try.f150, Try.func150, by kernel_rfl, by kernel_rfl⟩ n02n_c



def n05n_loops : Nat → Option LoopSpec
  | _ => none

theorem n05n_y (a0 : ByteArray) (a1 : ByteArray) : execFn G45 n05n_loops Try.f170 [.agg [.str a0, .str a1]] [] = n05n_k (a0, a1) (fun (y : Bool) => some ⟨.ret, [.bool y], []⟩) := by rw [n05n_e]; kernel_rfl

theorem n05n_l : LoopsOk G45 ⟨0, 18, n05n_loops⟩ (Try.f170.body.getD .skip) :=
  loopsOk_of (ids := []) (by kernel_rfl) (by kernel_rfl) trivial

theorem n05n_c : Contract Try.prog 170 n05n_g := by
  refine told G45_ok follows Try.func170 (c := Try.f170.body.getD .skip) (by kernel_rfl) ?_
  intro args s k r hk
  unfold n05n_g at hk
  rcases onPats_inv hk with ⟨p, q, rfl, rfl⟩ | hk
  · exact ⟨n05n_loops, n05n_q p.1.1 p.1.2.1, n05n_y p.1.1 p.1.2.1, n05n_l⟩
  cases hk

def G46 : Glob := G45.add 170 n05n_g

theorem G46_ok : GlobOk Try.prog G46 := G45_ok.add ⟨Try.f170, Try.func170, by kernel_rfl, by kernel_rfl⟩ n05n_c



def n09n_loops : Nat → Option LoopSpec
  | _ => none

theorem n09n_y (a0 : ByteArray) (a1 : ByteArray) (a2 : Bool) : execFn G46 n09n_loops Try.f233 [.agg [.str a0, .str a1, .bool a2]] [] = n09n_k (a0, (a1, a2)) (fun (y : Bool) => some ⟨.ret, [.bool y], []⟩) := by rw [n09n_e]; kernel_rfl

theorem n09n_l : LoopsOk G46 ⟨0, 22, n09n_loops⟩ (Try.f233.body.getD .skip) :=
  loopsOk_of (ids := []) (by kernel_rfl) (by kernel_rfl) trivial

theorem n09n_c : Contract Try.prog 233 n09n_g := by
  refine told G46_ok follows Try.func233 (c := Try.f233.body.getD .skip) (by kernel_rfl) ?_
  intro args s k r hk
  unfold n09n_g at hk
  rcases onPats_inv hk with ⟨p, q, rfl, rfl⟩ | hk
  · exact ⟨n09n_loops, n09n_q p.1.1 p.1.2.1 p.1.2.2.1, n09n_y p.1.1 p.1.2.1 p.1.2.2.1, n09n_l⟩
  cases hk

def G47 : Glob := G46.add 233 n09n_g

theorem G47_ok : GlobOk Try.prog G47 := G46_ok.add ⟨Try.f233, Try.func233, by kernel_rfl, by kernel_rfl⟩ n09n_c



def n10n_loops : Nat → Option LoopSpec
  | 0 => some ⟨[0, 2, 5, 6, 7], [], fun vals st k => onPats [.lst tWrite, .bool, .lst tWrite, .int .i64, .int .i64] [] vals st (fun p q => loopK n10n_b0 Fuel (p.1, p.2.1, p.2.2.1, p.2.2.2.1, p.2.2.2.2.1) (Sum.elim (fun z => k .ret [.lst tWrite z.1, .bool z.2.1, .lst tWrite z.2.2.1, .int .i64 z.2.2.2.1, .int .i64 z.2.2.2.2] []) (fun z => k (.exit 0) [.lst tWrite z.1, .bool z.2.1, .lst tWrite z.2.2.1, .int .i64 z.2.2.2.1, .int .i64 z.2.2.2.2] [])))
      (none)⟩
  | 2000004 => some ⟨[0, 3, 4, 6, 8, 10, 12, 14, 16, 18, 20, 22, 24, 26, 28, 30, 32, 34], [], fun _ _ _ => none⟩
  | _ => none

def n10n_v0 : q16T → List AV := (fun x => [.lst tWrite x.1, .bool x.2.1, .lst tWrite x.2.2.1, .int .i64 x.2.2.2.1, .int .i64 x.2.2.2.2])
def n10n_s0 : q16T → St := (fun x => [])
def n10n_e0 : (q16T ⊕ q16T) → Out × List AV × St := (Sum.elim (fun z => (.ret, [.lst tWrite z.1, .bool z.2.1, .lst tWrite z.2.2.1, .int .i64 z.2.2.2.1, .int .i64 z.2.2.2.2], [])) (fun z => ((.exit 0), [.lst tWrite z.1, .bool z.2.1, .lst tWrite z.2.2.1, .int .i64 z.2.2.2.1, .int .i64 z.2.2.2.2], [])))

theorem n10n_bx0 (x : q16T) : exec G47 ⟨0, 34, n10n_loops⟩ (loopBody Try.f171 0) (bodyK ⟨0, 34, n10n_loops⟩ [0, 2, 5, 6, 7] []) (setEs (deads 34) [0, 2, 5, 6, 7] (n10n_v0 x)) (n10n_s0 x) = n10n_b0 x (Sum.elim (fun y => some ⟨.norm, n10n_v0 y, n10n_s0 y⟩) fun z => some ⟨(n10n_e0 z).1, (n10n_e0 z).2.1, (n10n_e0 z).2.2⟩) := by
  kernel_rfl

theorem n10n_lo0 : ∀ sp, (n10n_loops 0) = some sp → LoopOk G47 ⟨0, 34, n10n_loops⟩ sp (loopBody Try.f171 0) := by
  intro sp hsp vals st k r h
  cases hsp
  dsimp only at h
  rcases onPats_inv2 h with ⟨p, q, rfl, rfl, h⟩ | h
  · exact loop_runs2 n10n_bp0 n10n_v0 n10n_s0 n10n_e0 (fun z => by rcases z with z | z <;> (intro h; cases h)) n10n_bx0 Fuel (p.1, p.2.1, p.2.2.1, p.2.2.2.1, p.2.2.2.2.1) _ k r (fun z => by rcases z with z | z <;> rfl) h
  cases h

theorem n10n_y (a0 : (List dWrite)) : execFn G47 n10n_loops Try.f171 [.lst tWrite a0] [] = n10n_k a0 (fun (y : Bool) => some ⟨.ret, [.bool y], []⟩) := by rw [n10n_e]; kernel_rfl

theorem n10n_l : LoopsOk G47 ⟨0, 34, n10n_loops⟩ (Try.f171.body.getD .skip) :=
  loopsOk_of (ids := [0]) (by kernel_rfl) (by kernel_rfl) ⟨n10n_lo0, trivial⟩

theorem n10n_c : Contract Try.prog 171 n10n_g := by
  refine told G47_ok follows Try.func171 (c := Try.f171.body.getD .skip) (by kernel_rfl) ?_
  intro args s k r hk
  unfold n10n_g at hk
  rcases onPats_inv hk with ⟨p, q, rfl, rfl⟩ | hk
  · exact ⟨n10n_loops, n10n_q p.1, n10n_y p.1, n10n_l⟩
  cases hk

def G48 : Glob := G47.add 171 n10n_g

theorem G48_ok : GlobOk Try.prog G48 := G47_ok.add ⟨Try.f171, Try.func171, by kernel_rfl, by kernel_rfl⟩ n10n_c



def n08n_loops : Nat → Option LoopSpec
  | 5000011 => some ⟨[1, 2], [], fun vals st k => onPats [.bp 0 0, .bool] [.box [.int .i64, .int .i64, .int .i64, .int .i64, .lst tRange, .lst tWrite, .bool, .str]] vals st (fun p q => n08n_j5000011 (p.2.1, q.1.1, q.1.2.1, q.1.2.2.1, q.1.2.2.2.1, q.1.2.2.2.2.1, q.1.2.2.2.2.2.1, q.1.2.2.2.2.2.2.1, q.1.2.2.2.2.2.2.2.1) (fun z => k .ret [.bp 0 0, .bool z.1] [.box [.int .i64 z.2.1, .int .i64 z.2.2.1, .int .i64 z.2.2.2.1, .int .i64 z.2.2.2.2.1, .lst tRange z.2.2.2.2.2.1, .lst tWrite z.2.2.2.2.2.2.1, .bool z.2.2.2.2.2.2.2.1, .str z.2.2.2.2.2.2.2.2]]))
      (none)⟩
  | 5000009 => some ⟨[1, 2], [], fun vals st k => onPats [.bp 0 0, .bool] [.box [.int .i64, .int .i64, .int .i64, .int .i64, .lst tRange, .lst tWrite, .bool, .str]] vals st (fun p q => n08n_j5000009 (p.2.1, q.1.1, q.1.2.1, q.1.2.2.1, q.1.2.2.2.1, q.1.2.2.2.2.1, q.1.2.2.2.2.2.1, q.1.2.2.2.2.2.2.1, q.1.2.2.2.2.2.2.2.1) (fun z => k .ret [.bp 0 0, .bool z.1] [.box [.int .i64 z.2.1, .int .i64 z.2.2.1, .int .i64 z.2.2.2.1, .int .i64 z.2.2.2.2.1, .lst tRange z.2.2.2.2.2.1, .lst tWrite z.2.2.2.2.2.2.1, .bool z.2.2.2.2.2.2.2.1, .str z.2.2.2.2.2.2.2.2]]))
      (none)⟩
  | 0 => some ⟨[1, 2, 6, 7, 8], [], fun vals st k => onPats [.bp 0 0, .bool, .lst tRange, .int .i64, .int .i64] [.box [.int .i64, .int .i64, .int .i64, .int .i64, .lst tRange, .lst tWrite, .bool, .str]] vals st (fun p q => loopK n08n_b0 Fuel (p.2.1, p.2.2.1, p.2.2.2.1, p.2.2.2.2.1, q.1.1, q.1.2.1, q.1.2.2.1, q.1.2.2.2.1, q.1.2.2.2.2.1, q.1.2.2.2.2.2.1, q.1.2.2.2.2.2.2.1, q.1.2.2.2.2.2.2.2.1) (Sum.elim (fun z => k .ret [.bp 0 0, .bool z.1, .lst tRange z.2.1, .int .i64 z.2.2.1, .int .i64 z.2.2.2.1] [.box [.int .i64 z.2.2.2.2.1, .int .i64 z.2.2.2.2.2.1, .int .i64 z.2.2.2.2.2.2.1, .int .i64 z.2.2.2.2.2.2.2.1, .lst tRange z.2.2.2.2.2.2.2.2.1, .lst tWrite z.2.2.2.2.2.2.2.2.2.1, .bool z.2.2.2.2.2.2.2.2.2.2.1, .str z.2.2.2.2.2.2.2.2.2.2.2]]) (fun z => k (.exit 0) [.bp 0 0, .bool z.1, .lst tRange z.2.1, .int .i64 z.2.2.1, .int .i64 z.2.2.2.1] [.box [.int .i64 z.2.2.2.2.1, .int .i64 z.2.2.2.2.2.1, .int .i64 z.2.2.2.2.2.2.1, .int .i64 z.2.2.2.2.2.2.2.1, .lst tRange z.2.2.2.2.2.2.2.2.1, .lst tWrite z.2.2.2.2.2.2.2.2.2.1, .bool z.2.2.2.2.2.2.2.2.2.2.1, .str z.2.2.2.2.2.2.2.2.2.2.2]])))
      (none)⟩
  | _ => none

def n08n_jv5000011 : q26T → List AV := (fun x => [.bp 0 0, .bool x.1])
def n08n_js5000011 : q26T → St := (fun x => [.box [.int .i64 x.2.1, .int .i64 x.2.2.1, .int .i64 x.2.2.2.1, .int .i64 x.2.2.2.2.1, .lst tRange x.2.2.2.2.2.1, .lst tWrite x.2.2.2.2.2.2.1, .bool x.2.2.2.2.2.2.2.1, .str x.2.2.2.2.2.2.2.2]])
def n08n_je5000011 : q26T → Out × List AV × St := (fun z => (.ret, [.bp 0 0, .bool z.1], [.box [.int .i64 z.2.1, .int .i64 z.2.2.1, .int .i64 z.2.2.2.1, .int .i64 z.2.2.2.2.1, .lst tRange z.2.2.2.2.2.1, .lst tWrite z.2.2.2.2.2.2.1, .bool z.2.2.2.2.2.2.2.1, .str z.2.2.2.2.2.2.2.2]]))

theorem n08n_jx5000011 (x : q26T) : exec G48 ⟨0, 93, n08n_loops⟩ (loopBody Try.f82 5000011) (bodyK ⟨0, 93, n08n_loops⟩ [1, 2] []) (setEs (deads 93) [1, 2] (n08n_jv5000011 x)) (n08n_js5000011 x) = n08n_j5000011 x (fun z => some ⟨(n08n_je5000011 z).1, (n08n_je5000011 z).2.1, (n08n_je5000011 z).2.2⟩) := by
  kernel_rfl

theorem n08n_lo5000011 : ∀ sp, (n08n_loops 5000011) = some sp → CutOk G48 ⟨0, 93, n08n_loops⟩ sp (loopBody Try.f82 5000011) := by
  intro sp hsp vals st k r h
  cases hsp
  dsimp only at h
  rcases onPats_inv2 h with ⟨p, q, rfl, rfl, h⟩ | h
  · exact cut_runs n08n_jp5000011 n08n_jv5000011 n08n_js5000011 n08n_je5000011 n08n_jx5000011 (p.2.1, q.1.1, q.1.2.1, q.1.2.2.1, q.1.2.2.2.1, q.1.2.2.2.2.1, q.1.2.2.2.2.2.1, q.1.2.2.2.2.2.2.1, q.1.2.2.2.2.2.2.2.1) _ k r (fun z => rfl) h
  cases h

def n08n_jv5000009 : q26T → List AV := (fun x => [.bp 0 0, .bool x.1])
def n08n_js5000009 : q26T → St := (fun x => [.box [.int .i64 x.2.1, .int .i64 x.2.2.1, .int .i64 x.2.2.2.1, .int .i64 x.2.2.2.2.1, .lst tRange x.2.2.2.2.2.1, .lst tWrite x.2.2.2.2.2.2.1, .bool x.2.2.2.2.2.2.2.1, .str x.2.2.2.2.2.2.2.2]])
def n08n_je5000009 : q26T → Out × List AV × St := (fun z => (.ret, [.bp 0 0, .bool z.1], [.box [.int .i64 z.2.1, .int .i64 z.2.2.1, .int .i64 z.2.2.2.1, .int .i64 z.2.2.2.2.1, .lst tRange z.2.2.2.2.2.1, .lst tWrite z.2.2.2.2.2.2.1, .bool z.2.2.2.2.2.2.2.1, .str z.2.2.2.2.2.2.2.2]]))

theorem n08n_jx5000009 (x : q26T) : exec G48 ⟨0, 93, n08n_loops⟩ (loopBody Try.f82 5000009) (bodyK ⟨0, 93, n08n_loops⟩ [1, 2] []) (setEs (deads 93) [1, 2] (n08n_jv5000009 x)) (n08n_js5000009 x) = n08n_j5000009 x (fun z => some ⟨(n08n_je5000009 z).1, (n08n_je5000009 z).2.1, (n08n_je5000009 z).2.2⟩) := by
  kernel_rfl

theorem n08n_lo5000009 : ∀ sp, (n08n_loops 5000009) = some sp → CutOk G48 ⟨0, 93, n08n_loops⟩ sp (loopBody Try.f82 5000009) := by
  intro sp hsp vals st k r h
  cases hsp
  dsimp only at h
  rcases onPats_inv2 h with ⟨p, q, rfl, rfl, h⟩ | h
  · exact cut_runs n08n_jp5000009 n08n_jv5000009 n08n_js5000009 n08n_je5000009 n08n_jx5000009 (p.2.1, q.1.1, q.1.2.1, q.1.2.2.1, q.1.2.2.2.1, q.1.2.2.2.2.1, q.1.2.2.2.2.2.1, q.1.2.2.2.2.2.2.1, q.1.2.2.2.2.2.2.2.1) _ k r (fun z => rfl) h
  cases h

def n08n_v0 : q20T → List AV := (fun x => [.bp 0 0, .bool x.1, .lst tRange x.2.1, .int .i64 x.2.2.1, .int .i64 x.2.2.2.1])
def n08n_s0 : q20T → St := (fun x => [.box [.int .i64 x.2.2.2.2.1, .int .i64 x.2.2.2.2.2.1, .int .i64 x.2.2.2.2.2.2.1, .int .i64 x.2.2.2.2.2.2.2.1, .lst tRange x.2.2.2.2.2.2.2.2.1, .lst tWrite x.2.2.2.2.2.2.2.2.2.1, .bool x.2.2.2.2.2.2.2.2.2.2.1, .str x.2.2.2.2.2.2.2.2.2.2.2]])
def n08n_e0 : (q20T ⊕ q20T) → Out × List AV × St := (Sum.elim (fun z => (.ret, [.bp 0 0, .bool z.1, .lst tRange z.2.1, .int .i64 z.2.2.1, .int .i64 z.2.2.2.1], [.box [.int .i64 z.2.2.2.2.1, .int .i64 z.2.2.2.2.2.1, .int .i64 z.2.2.2.2.2.2.1, .int .i64 z.2.2.2.2.2.2.2.1, .lst tRange z.2.2.2.2.2.2.2.2.1, .lst tWrite z.2.2.2.2.2.2.2.2.2.1, .bool z.2.2.2.2.2.2.2.2.2.2.1, .str z.2.2.2.2.2.2.2.2.2.2.2]])) (fun z => ((.exit 0), [.bp 0 0, .bool z.1, .lst tRange z.2.1, .int .i64 z.2.2.1, .int .i64 z.2.2.2.1], [.box [.int .i64 z.2.2.2.2.1, .int .i64 z.2.2.2.2.2.1, .int .i64 z.2.2.2.2.2.2.1, .int .i64 z.2.2.2.2.2.2.2.1, .lst tRange z.2.2.2.2.2.2.2.2.1, .lst tWrite z.2.2.2.2.2.2.2.2.2.1, .bool z.2.2.2.2.2.2.2.2.2.2.1, .str z.2.2.2.2.2.2.2.2.2.2.2]])))

theorem n08n_bx0 (x : q20T) : exec G48 ⟨0, 93, n08n_loops⟩ (loopBody Try.f82 0) (bodyK ⟨0, 93, n08n_loops⟩ [1, 2, 6, 7, 8] []) (setEs (deads 93) [1, 2, 6, 7, 8] (n08n_v0 x)) (n08n_s0 x) = n08n_b0 x (Sum.elim (fun y => some ⟨.norm, n08n_v0 y, n08n_s0 y⟩) fun z => some ⟨(n08n_e0 z).1, (n08n_e0 z).2.1, (n08n_e0 z).2.2⟩) := by
  kernel_rfl

theorem n08n_lo0 : ∀ sp, (n08n_loops 0) = some sp → LoopOk G48 ⟨0, 93, n08n_loops⟩ sp (loopBody Try.f82 0) := by
  intro sp hsp vals st k r h
  cases hsp
  dsimp only at h
  rcases onPats_inv2 h with ⟨p, q, rfl, rfl, h⟩ | h
  · exact loop_runs2 n08n_bp0 n08n_v0 n08n_s0 n08n_e0 (fun z => by rcases z with z | z <;> (intro h; cases h)) n08n_bx0 Fuel (p.2.1, p.2.2.1, p.2.2.2.1, p.2.2.2.2.1, q.1.1, q.1.2.1, q.1.2.2.1, q.1.2.2.2.1, q.1.2.2.2.2.1, q.1.2.2.2.2.2.1, q.1.2.2.2.2.2.2.1, q.1.2.2.2.2.2.2.2.1) _ k r (fun z => by rcases z with z | z <;> rfl) h
  cases h

theorem n08n_y (a0 : Int) (a1 : Int) (a2 : Int) (a3 : Int) (a4 : (List dRange)) (a5 : (List dWrite)) (a6 : Bool) (a7 : ByteArray) : execFn G48 n08n_loops Try.f82 [.agg [.int .i64 a0, .int .i64 a1, .int .i64 a2, .int .i64 a3, .lst tRange a4, .lst tWrite a5, .bool a6, .str a7]] [] = n08n_k (a0, (a1, (a2, (a3, (a4, (a5, (a6, a7))))))) (fun (y : Bool) => some ⟨.ret, [.bool y], []⟩) := by rw [n08n_e]; kernel_rfl

theorem n08n_l : LoopsOk G48 ⟨0, 93, n08n_loops⟩ (Try.f82.body.getD .skip) :=
  loopsOk_of (ids := [5000011, 5000009, 0]) (by kernel_rfl) (by kernel_rfl) ⟨n08n_lo5000011, ⟨n08n_lo5000009, ⟨n08n_lo0, trivial⟩⟩⟩

theorem n08n_c : Contract Try.prog 82 n08n_g := by
  refine told G48_ok follows Try.func82 (c := Try.f82.body.getD .skip) (by kernel_rfl) ?_
  intro args s k r hk
  unfold n08n_g at hk
  rcases onPats_inv hk with ⟨p, q, rfl, rfl⟩ | hk
  · exact ⟨n08n_loops, n08n_q p.1.1 p.1.2.1 p.1.2.2.1 p.1.2.2.2.1 p.1.2.2.2.2.1 p.1.2.2.2.2.2.1 p.1.2.2.2.2.2.2.1 p.1.2.2.2.2.2.2.2.1, n08n_y p.1.1 p.1.2.1 p.1.2.2.1 p.1.2.2.2.1 p.1.2.2.2.2.1 p.1.2.2.2.2.2.1 p.1.2.2.2.2.2.2.1 p.1.2.2.2.2.2.2.2.1, n08n_l⟩
  cases hk

def G49 : Glob := G48.add 82 n08n_g

theorem G49_ok : GlobOk Try.prog G49 := G48_ok.add ⟨Try.f82, Try.func82, by kernel_rfl, by kernel_rfl⟩ n08n_c



def n67n_loops : Nat → Option LoopSpec
  | 0 => some ⟨[0, 3, 4, 7, 8], [], fun vals st k => onPats [.lst tRange, .bp 0 0, .int .i64, .int .i64, .int .i64] [.box [.str, .str]] vals st (fun p q => loopK n67n_b0 Fuel (p.1, p.2.2.1, p.2.2.2.1, p.2.2.2.2.1, q.1.1, q.1.2.1) (Sum.elim (fun z => k .ret [.lst tRange z.1, .bp 0 0, .int .i64 z.2.1, .int .i64 z.2.2.1, .int .i64 z.2.2.2.1] [.box [.str z.2.2.2.2.1, .str z.2.2.2.2.2]]) (fun z => k (.exit 0) [.lst tRange z.1, .bp 0 0, .int .i64 z.2.1, .int .i64 z.2.2.1, .int .i64 z.2.2.2.1] [.box [.str z.2.2.2.2.1, .str z.2.2.2.2.2]])))
      (none)⟩
  | _ => none

def n67n_v0 : q2T → List AV := (fun x => [.lst tRange x.1, .bp 0 0, .int .i64 x.2.1, .int .i64 x.2.2.1, .int .i64 x.2.2.2.1])
def n67n_s0 : q2T → St := (fun x => [.box [.str x.2.2.2.2.1, .str x.2.2.2.2.2]])
def n67n_e0 : (q2T ⊕ q2T) → Out × List AV × St := (Sum.elim (fun z => (.ret, [.lst tRange z.1, .bp 0 0, .int .i64 z.2.1, .int .i64 z.2.2.1, .int .i64 z.2.2.2.1], [.box [.str z.2.2.2.2.1, .str z.2.2.2.2.2]])) (fun z => ((.exit 0), [.lst tRange z.1, .bp 0 0, .int .i64 z.2.1, .int .i64 z.2.2.1, .int .i64 z.2.2.2.1], [.box [.str z.2.2.2.2.1, .str z.2.2.2.2.2]])))

theorem n67n_bx0 (x : q2T) : exec G49 ⟨0, 19, n67n_loops⟩ (loopBody Try.f275 0) (bodyK ⟨0, 19, n67n_loops⟩ [0, 3, 4, 7, 8] []) (setEs (deads 19) [0, 3, 4, 7, 8] (n67n_v0 x)) (n67n_s0 x) = n67n_b0 x (Sum.elim (fun y => some ⟨.norm, n67n_v0 y, n67n_s0 y⟩) fun z => some ⟨(n67n_e0 z).1, (n67n_e0 z).2.1, (n67n_e0 z).2.2⟩) := by
  kernel_rfl

theorem n67n_lo0 : ∀ sp, (n67n_loops 0) = some sp → LoopOk G49 ⟨0, 19, n67n_loops⟩ sp (loopBody Try.f275 0) := by
  intro sp hsp vals st k r h
  cases hsp
  dsimp only at h
  rcases onPats_inv2 h with ⟨p, q, rfl, rfl, h⟩ | h
  · exact loop_runs2 n67n_bp0 n67n_v0 n67n_s0 n67n_e0 (fun z => by rcases z with z | z <;> (intro h; cases h)) n67n_bx0 Fuel (p.1, p.2.2.1, p.2.2.2.1, p.2.2.2.2.1, q.1.1, q.1.2.1) _ k r (fun z => by rcases z with z | z <;> rfl) h
  cases h

theorem n67n_y (a0 : (List dRange)) (a1 : ByteArray) (a2 : ByteArray) : execFn G49 n67n_loops Try.f275 [.lst tRange a0, .agg [.str a1, .str a2]] [] = n67n_k a0 (a1, a2) (fun (y : Int) => some ⟨.ret, [.int .i64 y], []⟩) := by rw [n67n_e]; kernel_rfl

theorem n67n_l : LoopsOk G49 ⟨0, 19, n67n_loops⟩ (Try.f275.body.getD .skip) :=
  loopsOk_of (ids := [0]) (by kernel_rfl) (by kernel_rfl) ⟨n67n_lo0, trivial⟩

theorem n67n_c : Contract Try.prog 275 n67n_g := by
  refine told G49_ok follows Try.func275 (c := Try.f275.body.getD .skip) (by kernel_rfl) ?_
  intro args s k r hk
  unfold n67n_g at hk
  rcases onPats_inv hk with ⟨p, q, rfl, rfl⟩ | hk
  · exact ⟨n67n_loops, n67n_q p.1 p.2.1.1 p.2.1.2.1, n67n_y p.1 p.2.1.1 p.2.1.2.1, n67n_l⟩
  cases hk

def G50 : Glob := G49.add 275 n67n_g

theorem G50_ok : GlobOk Try.prog G50 := G49_ok.add ⟨Try.f275, Try.func275, by kernel_rfl, by kernel_rfl⟩ n67n_c



def n64n_loops : Nat → Option LoopSpec
  | _ => none

theorem n64n_y (a0 : (List dRange)) (a1 : ByteArray) (a2 : ByteArray) : execFn G50 n64n_loops Try.f262 [.lst tRange a0, .agg [.str a1, .str a2]] [] = n64n_k a0 (a1, a2) (fun (y : Bool) => some ⟨.ret, [.bool y], []⟩) := by rw [n64n_e]; kernel_rfl

theorem n64n_l : LoopsOk G50 ⟨0, 9, n64n_loops⟩ (Try.f262.body.getD .skip) :=
  loopsOk_of (ids := []) (by kernel_rfl) (by kernel_rfl) trivial

theorem n64n_c : Contract Try.prog 262 n64n_g := by
  refine told G50_ok follows Try.func262 (c := Try.f262.body.getD .skip) (by kernel_rfl) ?_
  intro args s k r hk
  unfold n64n_g at hk
  rcases onPats_inv hk with ⟨p, q, rfl, rfl⟩ | hk
  · exact ⟨n64n_loops, n64n_q p.1 p.2.1.1 p.2.1.2.1, n64n_y p.1 p.2.1.1 p.2.1.2.1, n64n_l⟩
  cases hk

def G51 : Glob := G50.add 262 n64n_g

theorem G51_ok : GlobOk Try.prog G51 := G50_ok.add ⟨Try.f262, Try.func262, by kernel_rfl, by kernel_rfl⟩ n64n_c



def n06n_loops : Nat → Option LoopSpec
  | 5000004 => some ⟨[2, 3, 4, 5, 6], [none, none, none, none, none, none, none, none, none, none, none, none, none, none, none, none, none, none, none, some tRange, some tWrite], fun vals st k => onPats [.bp 0 0, .bp 1 0, .bp 2 0, .bool, .bp 3 0] [.box [.int .i64, .int .i64, .int .i64, .int .i64, .lst tRange, .lst tWrite, .bool, .str], .box [.str, .str], .box [.int .i64, .int .i64, .int .i64, .int .i64, .own 4, .own 5, .bool, .str], .box [.int .i64, .int .i64, .int .i64, .int .i64, .own 6, .own 7, .bool, .str], .arr tRange, .arr tWrite, .arr tRange, .arr tWrite] vals st (fun p q => n06n_j5000004 (p.2.2.2.1, q.1.1, q.1.2.1, q.1.2.2.1, q.1.2.2.2.1, q.1.2.2.2.2.1, q.1.2.2.2.2.2.1, q.1.2.2.2.2.2.2.1, q.1.2.2.2.2.2.2.2.1, q.2.1.1, q.2.1.2.1, q.2.2.1.1, q.2.2.1.2.1, q.2.2.1.2.2.1, q.2.2.1.2.2.2.1, q.2.2.1.2.2.2.2.2.2.1, q.2.2.1.2.2.2.2.2.2.2.1, q.2.2.2.1.1, q.2.2.2.1.2.1, q.2.2.2.1.2.2.1, q.2.2.2.1.2.2.2.1, q.2.2.2.1.2.2.2.2.2.2.1, q.2.2.2.1.2.2.2.2.2.2.2.1, q.2.2.2.2.1, q.2.2.2.2.2.1, q.2.2.2.2.2.2.1, q.2.2.2.2.2.2.2.1) (fun z => k .ret [.bp 0 0, .bp 1 0, .bp 2 0, .bool z.1, .bp 3 0] [.box [.int .i64 z.2.1, .int .i64 z.2.2.1, .int .i64 z.2.2.2.1, .int .i64 z.2.2.2.2.1, .lst tRange z.2.2.2.2.2.1, .lst tWrite z.2.2.2.2.2.2.1, .bool z.2.2.2.2.2.2.2.1, .str z.2.2.2.2.2.2.2.2.1], .box [.str z.2.2.2.2.2.2.2.2.2.1, .str z.2.2.2.2.2.2.2.2.2.2.1], .box [.int .i64 z.2.2.2.2.2.2.2.2.2.2.2.1, .int .i64 z.2.2.2.2.2.2.2.2.2.2.2.2.1, .int .i64 z.2.2.2.2.2.2.2.2.2.2.2.2.2.1, .int .i64 z.2.2.2.2.2.2.2.2.2.2.2.2.2.2.1, .own 4, .own 5, .bool z.2.2.2.2.2.2.2.2.2.2.2.2.2.2.2.1, .str z.2.2.2.2.2.2.2.2.2.2.2.2.2.2.2.2.1], .box [.int .i64 z.2.2.2.2.2.2.2.2.2.2.2.2.2.2.2.2.2.1, .int .i64 z.2.2.2.2.2.2.2.2.2.2.2.2.2.2.2.2.2.2.1, .int .i64 z.2.2.2.2.2.2.2.2.2.2.2.2.2.2.2.2.2.2.2.1, .int .i64 z.2.2.2.2.2.2.2.2.2.2.2.2.2.2.2.2.2.2.2.2.1, .own 4, .own 5, .bool z.2.2.2.2.2.2.2.2.2.2.2.2.2.2.2.2.2.2.2.2.2.1, .str z.2.2.2.2.2.2.2.2.2.2.2.2.2.2.2.2.2.2.2.2.2.2.1], .arr tRange z.2.2.2.2.2.2.2.2.2.2.2.2.2.2.2.2.2.2.2.2.2.2.2.1, .arr tWrite z.2.2.2.2.2.2.2.2.2.2.2.2.2.2.2.2.2.2.2.2.2.2.2.2]))
      (none)⟩
  | _ => none

def n06n_jv5000004 : q24T → List AV := (fun x => [.bp 0 0, .bp 1 0, .bp 2 0, .bool x.1, .bp 3 0])
def n06n_js5000004 : q24T → St := (fun x => [.box [.int .i64 x.2.1, .int .i64 x.2.2.1, .int .i64 x.2.2.2.1, .int .i64 x.2.2.2.2.1, .lst tRange x.2.2.2.2.2.1, .lst tWrite x.2.2.2.2.2.2.1, .bool x.2.2.2.2.2.2.2.1, .str x.2.2.2.2.2.2.2.2.1], .box [.str x.2.2.2.2.2.2.2.2.2.1, .str x.2.2.2.2.2.2.2.2.2.2.1], .box [.int .i64 x.2.2.2.2.2.2.2.2.2.2.2.1, .int .i64 x.2.2.2.2.2.2.2.2.2.2.2.2.1, .int .i64 x.2.2.2.2.2.2.2.2.2.2.2.2.2.1, .int .i64 x.2.2.2.2.2.2.2.2.2.2.2.2.2.2.1, .own 4, .own 5, .bool x.2.2.2.2.2.2.2.2.2.2.2.2.2.2.2.1, .str x.2.2.2.2.2.2.2.2.2.2.2.2.2.2.2.2.1], .box [.int .i64 x.2.2.2.2.2.2.2.2.2.2.2.2.2.2.2.2.2.1, .int .i64 x.2.2.2.2.2.2.2.2.2.2.2.2.2.2.2.2.2.2.1, .int .i64 x.2.2.2.2.2.2.2.2.2.2.2.2.2.2.2.2.2.2.2.1, .int .i64 x.2.2.2.2.2.2.2.2.2.2.2.2.2.2.2.2.2.2.2.2.1, .own 6, .own 7, .bool x.2.2.2.2.2.2.2.2.2.2.2.2.2.2.2.2.2.2.2.2.2.1, .str x.2.2.2.2.2.2.2.2.2.2.2.2.2.2.2.2.2.2.2.2.2.2.1], .arr tRange x.2.2.2.2.2.2.2.2.2.2.2.2.2.2.2.2.2.2.2.2.2.2.2.1, .arr tWrite x.2.2.2.2.2.2.2.2.2.2.2.2.2.2.2.2.2.2.2.2.2.2.2.2.1, .arr tRange x.2.2.2.2.2.2.2.2.2.2.2.2.2.2.2.2.2.2.2.2.2.2.2.2.2.1, .arr tWrite x.2.2.2.2.2.2.2.2.2.2.2.2.2.2.2.2.2.2.2.2.2.2.2.2.2.2])
def n06n_je5000004 : q25T → Out × List AV × St := (fun z => (.ret, [.bp 0 0, .bp 1 0, .bp 2 0, .bool z.1, .bp 3 0], [.box [.int .i64 z.2.1, .int .i64 z.2.2.1, .int .i64 z.2.2.2.1, .int .i64 z.2.2.2.2.1, .lst tRange z.2.2.2.2.2.1, .lst tWrite z.2.2.2.2.2.2.1, .bool z.2.2.2.2.2.2.2.1, .str z.2.2.2.2.2.2.2.2.1], .box [.str z.2.2.2.2.2.2.2.2.2.1, .str z.2.2.2.2.2.2.2.2.2.2.1], .box [.int .i64 z.2.2.2.2.2.2.2.2.2.2.2.1, .int .i64 z.2.2.2.2.2.2.2.2.2.2.2.2.1, .int .i64 z.2.2.2.2.2.2.2.2.2.2.2.2.2.1, .int .i64 z.2.2.2.2.2.2.2.2.2.2.2.2.2.2.1, .own 4, .own 5, .bool z.2.2.2.2.2.2.2.2.2.2.2.2.2.2.2.1, .str z.2.2.2.2.2.2.2.2.2.2.2.2.2.2.2.2.1], .box [.int .i64 z.2.2.2.2.2.2.2.2.2.2.2.2.2.2.2.2.2.1, .int .i64 z.2.2.2.2.2.2.2.2.2.2.2.2.2.2.2.2.2.2.1, .int .i64 z.2.2.2.2.2.2.2.2.2.2.2.2.2.2.2.2.2.2.2.1, .int .i64 z.2.2.2.2.2.2.2.2.2.2.2.2.2.2.2.2.2.2.2.2.1, .own 4, .own 5, .bool z.2.2.2.2.2.2.2.2.2.2.2.2.2.2.2.2.2.2.2.2.2.1, .str z.2.2.2.2.2.2.2.2.2.2.2.2.2.2.2.2.2.2.2.2.2.2.1], .arr tRange z.2.2.2.2.2.2.2.2.2.2.2.2.2.2.2.2.2.2.2.2.2.2.2.1, .arr tWrite z.2.2.2.2.2.2.2.2.2.2.2.2.2.2.2.2.2.2.2.2.2.2.2.2]))

theorem n06n_jx5000004 (x : q24T) : exec G51 ⟨0, 40, n06n_loops⟩ (loopBody Try.f227 5000004) (bodyK ⟨0, 40, n06n_loops⟩ [2, 3, 4, 5, 6] [none, none, none, none, none, none, none, none, none, none, none, none, none, none, none, none, none, none, none, some tRange, some tWrite]) (setEs (deads 40) [2, 3, 4, 5, 6] (n06n_jv5000004 x)) (n06n_js5000004 x) = n06n_j5000004 x (fun z => some ⟨(n06n_je5000004 z).1, (n06n_je5000004 z).2.1, (n06n_je5000004 z).2.2⟩) := by
  kernel_rfl

theorem n06n_lo5000004 : ∀ sp, (n06n_loops 5000004) = some sp → CutOk G51 ⟨0, 40, n06n_loops⟩ sp (loopBody Try.f227 5000004) := by
  intro sp hsp vals st k r h
  cases hsp
  dsimp only at h
  rcases onPats_inv2 h with ⟨p, q, rfl, rfl, h⟩ | h
  · exact cut_runs n06n_jp5000004 n06n_jv5000004 n06n_js5000004 n06n_je5000004 n06n_jx5000004 (p.2.2.2.1, q.1.1, q.1.2.1, q.1.2.2.1, q.1.2.2.2.1, q.1.2.2.2.2.1, q.1.2.2.2.2.2.1, q.1.2.2.2.2.2.2.1, q.1.2.2.2.2.2.2.2.1, q.2.1.1, q.2.1.2.1, q.2.2.1.1, q.2.2.1.2.1, q.2.2.1.2.2.1, q.2.2.1.2.2.2.1, q.2.2.1.2.2.2.2.2.2.1, q.2.2.1.2.2.2.2.2.2.2.1, q.2.2.2.1.1, q.2.2.2.1.2.1, q.2.2.2.1.2.2.1, q.2.2.2.1.2.2.2.1, q.2.2.2.1.2.2.2.2.2.2.1, q.2.2.2.1.2.2.2.2.2.2.2.1, q.2.2.2.2.1, q.2.2.2.2.2.1, q.2.2.2.2.2.2.1, q.2.2.2.2.2.2.2.1) _ k r (fun z => rfl) h
  cases h

theorem n06n_y (a0 : Int) (a1 : Int) (a2 : Int) (a3 : Int) (a4 : (List dRange)) (a5 : (List dWrite)) (a6 : Bool) (a7 : ByteArray) (a8 : ByteArray) (a9 : ByteArray) : execFn G51 n06n_loops Try.f227 [.agg [.int .i64 a0, .int .i64 a1, .int .i64 a2, .int .i64 a3, .lst tRange a4, .lst tWrite a5, .bool a6, .str a7], .agg [.str a8, .str a9]] [] = n06n_k (a0, (a1, (a2, (a3, (a4, (a5, (a6, a7))))))) (a8, a9) (fun (y : q41T) => some ⟨.ret, [.tup [.agg [.int .i64 y.1, .int .i64 y.2.1, .int .i64 y.2.2.1, .int .i64 y.2.2.2.1, .own 0, .own 1, .bool y.2.2.2.2.1, .str y.2.2.2.2.2.1], .bool y.2.2.2.2.2.2.1]], [.arr tRange y.2.2.2.2.2.2.2.1, .arr tWrite y.2.2.2.2.2.2.2.2]⟩) := by rw [n06n_e]; kernel_rfl

theorem n06n_l : LoopsOk G51 ⟨0, 40, n06n_loops⟩ (Try.f227.body.getD .skip) :=
  loopsOk_of (ids := [5000004]) (by kernel_rfl) (by kernel_rfl) ⟨n06n_lo5000004, trivial⟩

theorem n06n_c : Contract Try.prog 227 n06n_g := by
  refine told G51_ok follows Try.func227 (c := Try.f227.body.getD .skip) (by kernel_rfl) ?_
  intro args s k r hk
  unfold n06n_g at hk
  rcases onPats_inv hk with ⟨p, q, rfl, rfl⟩ | hk
  · exact ⟨n06n_loops, n06n_q p.1.1 p.1.2.1 p.1.2.2.1 p.1.2.2.2.1 p.1.2.2.2.2.1 p.1.2.2.2.2.2.1 p.1.2.2.2.2.2.2.1 p.1.2.2.2.2.2.2.2.1 p.2.1.1 p.2.1.2.1, n06n_y p.1.1 p.1.2.1 p.1.2.2.1 p.1.2.2.2.1 p.1.2.2.2.2.1 p.1.2.2.2.2.2.1 p.1.2.2.2.2.2.2.1 p.1.2.2.2.2.2.2.2.1 p.2.1.1 p.2.1.2.1, n06n_l⟩
  cases hk

def G52 : Glob := G51.add 227 n06n_g

theorem G52_ok : GlobOk Try.prog G52 := G51_ok.add ⟨Try.f227, Try.func227, by kernel_rfl, by kernel_rfl⟩ n06n_c



def n18n_loops : Nat → Option LoopSpec
  | _ => none

theorem n18n_y (a0 : (List dVersion)) (a1 : (List dTxn)) (a2 : (List dTxn)) (a3 : Int) (a4 : Int) (a5 : (List dTxn)) (a6 : Int) (a7 : ByteArray) (a8 : ByteArray) (a9 : Bool) : execFn G52 n18n_loops Try.f157 [.agg [.lst tVersion a0, .lst tTxn a1, .lst tTxn a2, .int .i64 a3, .int .i64 a4, .lst tTxn a5], .int .i64 a6, .agg [.str a7, .str a8], .bool a9] [] = n18n_k ((a0, (a1, (a2, (a3, a4)))), a5) a6 (a7, a8) a9 (fun (y : q39T) => some ⟨.ret, [.tup [.agg [.own 0, .own 1, .own 2, .int .i64 y.1, .int .i64 y.2.1, .own 3], .int .i64 y.2.2.1, .int .i64 y.2.2.2.1]], [.arr tVersion y.2.2.2.2.1, .dep tTxn y.2.2.2.2.2.1 0, .dep tTxn y.2.2.2.2.2.2.1 0, .dep tTxn y.2.2.2.2.2.2.2 0]⟩) := by rw [n18n_e]; kernel_rfl

theorem n18n_l : LoopsOk G52 ⟨0, 49, n18n_loops⟩ (Try.f157.body.getD .skip) :=
  loopsOk_of (ids := []) (by kernel_rfl) (by kernel_rfl) trivial

theorem n18n_c : Contract Try.prog 157 n18n_g := by
  refine told G52_ok follows Try.func157 (c := Try.f157.body.getD .skip) (by kernel_rfl) ?_
  intro args s k r hk
  unfold n18n_g at hk
  rcases onPats_inv hk with ⟨p, q, rfl, rfl⟩ | hk
  · exact ⟨n18n_loops, n18n_q p.1.1 p.1.2.1 p.1.2.2.1 p.1.2.2.2.1 p.1.2.2.2.2.1 p.1.2.2.2.2.2.1 p.2.1 p.2.2.1.1 p.2.2.1.2.1 p.2.2.2.1, n18n_y p.1.1 p.1.2.1 p.1.2.2.1 p.1.2.2.2.1 p.1.2.2.2.2.1 p.1.2.2.2.2.2.1 p.2.1 p.2.2.1.1 p.2.2.1.2.1 p.2.2.2.1, n18n_l⟩
  cases hk

def G53 : Glob := G52.add 157 n18n_g

theorem G53_ok : GlobOk Try.prog G53 := G52_ok.add ⟨Try.f157, Try.func157, by kernel_rfl, by kernel_rfl⟩ n18n_c



def n17n_loops : Nat → Option LoopSpec
  | _ => none

theorem n17n_y (a0 : ByteArray) (a1 : ByteArray) (a2 : Bool) (a3 : ByteArray) : execFn G53 n17n_loops Try.f178 [.agg [.str a0, .str a1, .bool a2], .bp 0 0] [.box [.str a3]] = n17n_k (a0, (a1, a2)) a3 (fun (y : (Bool × ByteArray)) => some ⟨.ret, [.bool y.1], [.box [.str y.2]]⟩) := by rw [n17n_e]; kernel_rfl

theorem n17n_l : LoopsOk G53 ⟨1, 8, n17n_loops⟩ (Try.f178.body.getD .skip) :=
  loopsOk_of (ids := []) (by kernel_rfl) (by kernel_rfl) trivial

theorem n17n_c : Contract Try.prog 178 n17n_g := by
  refine told G53_ok follows Try.func178 (c := Try.f178.body.getD .skip) (by kernel_rfl) ?_
  intro args s k r hk
  unfold n17n_g at hk
  rcases onPats_inv hk with ⟨p, q, rfl, rfl⟩ | hk
  · exact ⟨n17n_loops, n17n_q p.1.1 p.1.2.1 p.1.2.2.1 q.1.1, n17n_y p.1.1 p.1.2.1 p.1.2.2.1 q.1.1, n17n_l⟩
  cases hk

def G54 : Glob := G53.add 178 n17n_g

theorem G54_ok : GlobOk Try.prog G54 := G53_ok.add ⟨Try.f178, Try.func178, by kernel_rfl, by kernel_rfl⟩ n17n_c



def n66n_loops : Nat → Option LoopSpec
  | 0 => some ⟨[0, 1, 4, 7, 8], [], fun vals st k => onPats [.lst tWrite, .fn 178 [.bp 0 0], .int .i64, .int .i64, .int .i64] [.box [.str]] vals st (fun p q => loopK n66n_b0 Fuel (p.1, p.2.2.1, p.2.2.2.1, p.2.2.2.2.1, q.1.1) (Sum.elim (fun z => k .ret [.lst tWrite z.1, .fn 178 [.bp 0 0], .int .i64 z.2.1, .int .i64 z.2.2.1, .int .i64 z.2.2.2.1] [.box [.str z.2.2.2.2]]) (fun z => k (.exit 0) [.lst tWrite z.1, .fn 178 [.bp 0 0], .int .i64 z.2.1, .int .i64 z.2.2.1, .int .i64 z.2.2.2.1] [.box [.str z.2.2.2.2]])))
      (none)⟩
  | _ => none

def n66n_v0 : q18T → List AV := (fun x => [.lst tWrite x.1, .fn 178 [.bp 0 0], .int .i64 x.2.1, .int .i64 x.2.2.1, .int .i64 x.2.2.2.1])
def n66n_s0 : q18T → St := (fun x => [.box [.str x.2.2.2.2]])
def n66n_e0 : (q18T ⊕ q18T) → Out × List AV × St := (Sum.elim (fun z => (.ret, [.lst tWrite z.1, .fn 178 [.bp 0 0], .int .i64 z.2.1, .int .i64 z.2.2.1, .int .i64 z.2.2.2.1], [.box [.str z.2.2.2.2]])) (fun z => ((.exit 0), [.lst tWrite z.1, .fn 178 [.bp 0 0], .int .i64 z.2.1, .int .i64 z.2.2.1, .int .i64 z.2.2.2.1], [.box [.str z.2.2.2.2]])))

theorem n66n_bx0 (x : q18T) : exec G54 ⟨1, 19, n66n_loops⟩ (loopBody Try.f177 0) (bodyK ⟨1, 19, n66n_loops⟩ [0, 1, 4, 7, 8] []) (setEs (deads 19) [0, 1, 4, 7, 8] (n66n_v0 x)) (n66n_s0 x) = n66n_b0 x (Sum.elim (fun y => some ⟨.norm, n66n_v0 y, n66n_s0 y⟩) fun z => some ⟨(n66n_e0 z).1, (n66n_e0 z).2.1, (n66n_e0 z).2.2⟩) := by
  kernel_rfl

theorem n66n_lo0 : ∀ sp, (n66n_loops 0) = some sp → LoopOk G54 ⟨1, 19, n66n_loops⟩ sp (loopBody Try.f177 0) := by
  intro sp hsp vals st k r h
  cases hsp
  dsimp only at h
  rcases onPats_inv2 h with ⟨p, q, rfl, rfl, h⟩ | h
  · exact loop_runs2 n66n_bp0 n66n_v0 n66n_s0 n66n_e0 (fun z => by rcases z with z | z <;> (intro h; cases h)) n66n_bx0 Fuel (p.1, p.2.2.1, p.2.2.2.1, p.2.2.2.2.1, q.1.1) _ k r (fun z => by rcases z with z | z <;> rfl) h
  cases h

theorem n66n_y (a0 : (List dWrite)) (a1 : ByteArray) : execFn G54 n66n_loops Try.f177 [.lst tWrite a0, .fn 178 [.bp 0 0]] [.box [.str a1]] = n66n_k a0 a1 (fun (y : (Int × ByteArray)) => some ⟨.ret, [.int .i64 y.1], [.box [.str y.2]]⟩) := by rw [n66n_e]; kernel_rfl

theorem n66n_l : LoopsOk G54 ⟨1, 19, n66n_loops⟩ (Try.f177.body.getD .skip) :=
  loopsOk_of (ids := [0]) (by kernel_rfl) (by kernel_rfl) ⟨n66n_lo0, trivial⟩

theorem slices_IndexFunc_Write_c : Contract Try.prog 177 slices_IndexFunc_Write_g := by
  refine told G54_ok follows Try.func177 (c := Try.f177.body.getD .skip) (by kernel_rfl) ?_
  intro args s k r hk
  unfold slices_IndexFunc_Write_g at hk
  rcases onPats_inv hk with ⟨p, q, rfl, rfl⟩ | hk
  · exact ⟨n66n_loops, n66n_q p.1 q.1.1, n66n_y p.1 q.1.1, n66n_l⟩
  cases hk

def G55 : Glob := G54.add 177 slices_IndexFunc_Write_g

theorem G55_ok : GlobOk Try.prog G55 := G54_ok.add ⟨Try.f177, Try.func177, by kernel_rfl, by kernel_rfl⟩ slices_IndexFunc_Write_c



def n16n_loops : Nat → Option LoopSpec
  | _ => none

theorem n16n_y (a0 : Int) (a1 : Int) (a2 : Int) (a3 : Int) (a4 : (List dRange)) (a5 : (List dWrite)) (a6 : Bool) (a7 : ByteArray) (a8 : ByteArray) : execFn G55 n16n_loops Try.f90 [.agg [.int .i64 a0, .int .i64 a1, .int .i64 a2, .int .i64 a3, .lst tRange a4, .lst tWrite a5, .bool a6, .str a7], .str a8] [] = n16n_k (a0, (a1, (a2, (a3, (a4, (a5, (a6, a7))))))) a8 (fun (y : Int) => some ⟨.ret, [.int .i64 y], []⟩) := by rw [n16n_e]; kernel_rfl

theorem n16n_l : LoopsOk G55 ⟨0, 9, n16n_loops⟩ (Try.f90.body.getD .skip) :=
  loopsOk_of (ids := []) (by kernel_rfl) (by kernel_rfl) trivial

theorem n16n_c : Contract Try.prog 90 n16n_g := by
  refine told G55_ok follows Try.func90 (c := Try.f90.body.getD .skip) (by kernel_rfl) ?_
  intro args s k r hk
  unfold n16n_g at hk
  rcases onPats_inv hk with ⟨p, q, rfl, rfl⟩ | hk
  · exact ⟨n16n_loops, n16n_q p.1.1 p.1.2.1 p.1.2.2.1 p.1.2.2.2.1 p.1.2.2.2.2.1 p.1.2.2.2.2.2.1 p.1.2.2.2.2.2.2.1 p.1.2.2.2.2.2.2.2.1 p.2.1, n16n_y p.1.1 p.1.2.1 p.1.2.2.1 p.1.2.2.2.1 p.1.2.2.2.2.1 p.1.2.2.2.2.2.1 p.1.2.2.2.2.2.2.1 p.1.2.2.2.2.2.2.2.1 p.2.1, n16n_l⟩
  cases hk

def G56 : Glob := G55.add 90 n16n_g

theorem G56_ok : GlobOk Try.prog G56 := G55_ok.add ⟨Try.f90, Try.func90, by kernel_rfl, by kernel_rfl⟩ n16n_c



def n15n_loops : Nat → Option LoopSpec
  | 0 => some ⟨[0, 1, 2, 7, 10, 11, 12], [], fun vals st k => onPats [.lst tVersion, .str, .int .i64, .int .i64, .lst tVersion, .int .i64, .int .i64] [] vals st (fun p q => loopK n15n_b0 Fuel (p.1, p.2.1, p.2.2.1, p.2.2.2.1, p.2.2.2.2.1, p.2.2.2.2.2.1, p.2.2.2.2.2.2.1) (fun z => k (.exit 0) [.lst tVersion z.1, .str z.2.1, .int .i64 z.2.2.1, .int .i64 z.2.2.2.1, .lst tVersion z.2.2.2.2.1, .int .i64 z.2.2.2.2.2.1, .int .i64 z.2.2.2.2.2.2] []))
      (none)⟩
  | 2000005 => some ⟨[0, 2, 4, 6, 8, 10, 12, 14, 16, 18, 20, 22, 24, 26, 28, 30, 32, 34, 36, 38, 40, 42, 44, 46], [], fun _ _ _ => none⟩
  | _ => none

def n15n_v0 : q11T → List AV := (fun x => [.lst tVersion x.1, .str x.2.1, .int .i64 x.2.2.1, .int .i64 x.2.2.2.1, .lst tVersion x.2.2.2.2.1, .int .i64 x.2.2.2.2.2.1, .int .i64 x.2.2.2.2.2.2])
def n15n_s0 : q11T → St := (fun x => [])
def n15n_e0 : q11T → Out × List AV × St := (fun z => ((.exit 0), [.lst tVersion z.1, .str z.2.1, .int .i64 z.2.2.1, .int .i64 z.2.2.2.1, .lst tVersion z.2.2.2.2.1, .int .i64 z.2.2.2.2.2.1, .int .i64 z.2.2.2.2.2.2], []))

theorem n15n_bx0 (x : q11T) : exec G56 ⟨0, 44, n15n_loops⟩ (loopBody Try.f140 0) (bodyK ⟨0, 44, n15n_loops⟩ [0, 1, 2, 7, 10, 11, 12] []) (setEs (deads 44) [0, 1, 2, 7, 10, 11, 12] (n15n_v0 x)) (n15n_s0 x) = n15n_b0 x (Sum.elim (fun y => some ⟨.norm, n15n_v0 y, n15n_s0 y⟩) fun z => some ⟨(n15n_e0 z).1, (n15n_e0 z).2.1, (n15n_e0 z).2.2⟩) := by
  kernel_rfl

theorem n15n_lo0 : ∀ sp, (n15n_loops 0) = some sp → LoopOk G56 ⟨0, 44, n15n_loops⟩ sp (loopBody Try.f140 0) := by
  intro sp hsp vals st k r h
  cases hsp
  dsimp only at h
  rcases onPats_inv2 h with ⟨p, q, rfl, rfl, h⟩ | h
  · exact loop_runs2 n15n_bp0 n15n_v0 n15n_s0 n15n_e0 (fun z => by (intro h; cases h)) n15n_bx0 Fuel (p.1, p.2.1, p.2.2.1, p.2.2.2.1, p.2.2.2.2.1, p.2.2.2.2.2.1, p.2.2.2.2.2.2.1) _ k r (fun z => rfl) h
  cases h

theorem n15n_y (a0 : (List dVersion)) (a1 : ByteArray) (a2 : Int) : execFn G56 n15n_loops Try.f140 [.lst tVersion a0, .str a1, .int .i64 a2] [] = n15n_k a0 a1 a2 (fun (y : Int) => some ⟨.ret, [.int .i64 y], []⟩) := by rw [n15n_e]; kernel_rfl

theorem n15n_l : LoopsOk G56 ⟨0, 44, n15n_loops⟩ (Try.f140.body.getD .skip) :=
  loopsOk_of (ids := [0]) (by kernel_rfl) (by kernel_rfl) ⟨n15n_lo0, trivial⟩

theorem n15n_c : Contract Try.prog 140 n15n_g := by
  refine told G56_ok follows Try.func140 (c := Try.f140.body.getD .skip) (by kernel_rfl) ?_
  intro args s k r hk
  unfold n15n_g at hk
  rcases onPats_inv hk with ⟨p, q, rfl, rfl⟩ | hk
  · exact ⟨n15n_loops, n15n_q p.1 p.2.1 p.2.2.1, n15n_y p.1 p.2.1 p.2.2.1, n15n_l⟩
  cases hk

def G57 : Glob := G56.add 140 n15n_g

theorem G57_ok : GlobOk Try.prog G57 := G56_ok.add ⟨Try.f140, Try.func140, by kernel_rfl, by kernel_rfl⟩ n15n_c



def n07n_loops : Nat → Option LoopSpec
  | _ => none

theorem n07n_y (a0 : (List dVersion)) (a1 : ByteArray) (a2 : Int) : execFn G57 n07n_loops Try.f60 [.lst tVersion a0, .str a1, .int .i64 a2] [] = n07n_k a0 a1 a2 (fun (y : (ByteArray × Bool)) => some ⟨.ret, [.tup [.str y.1, .bool y.2]], []⟩) := by rw [n07n_e]; kernel_rfl

theorem n07n_l : LoopsOk G57 ⟨0, 27, n07n_loops⟩ (Try.f60.body.getD .skip) :=
  loopsOk_of (ids := []) (by kernel_rfl) (by kernel_rfl) trivial

theorem n07n_c : Contract Try.prog 60 n07n_g := by
  refine told G57_ok follows Try.func60 (c := Try.f60.body.getD .skip) (by kernel_rfl) ?_
  intro args s k r hk
  unfold n07n_g at hk
  rcases onPats_inv hk with ⟨p, q, rfl, rfl⟩ | hk
  · exact ⟨n07n_loops, n07n_q p.1 p.2.1 p.2.2.1, n07n_y p.1 p.2.1 p.2.2.1, n07n_l⟩
  cases hk

def G58 : Glob := G57.add 60 n07n_g

theorem G58_ok : GlobOk Try.prog G58 := G57_ok.add ⟨Try.f60, Try.func60, by kernel_rfl, by kernel_rfl⟩ n07n_c



def n04n_loops : Nat → Option LoopSpec
  | _ => none

theorem n04n_y (a0 : Int) (a1 : Int) (a2 : Int) (a3 : Int) (a4 : (List dRange)) (a5 : (List dWrite)) (a6 : Bool) (a7 : ByteArray) (a8 : (List dVersion)) (a9 : ByteArray) : execFn G58 n04n_loops Try.f33 [.agg [.int .i64 a0, .int .i64 a1, .int .i64 a2, .int .i64 a3, .lst tRange a4, .lst tWrite a5, .bool a6, .str a7], .lst tVersion a8, .str a9] [] = n04n_k (a0, (a1, (a2, (a3, (a4, (a5, (a6, a7))))))) a8 a9 (fun (y : (ByteArray × Bool)) => some ⟨.ret, [.tup [.str y.1, .bool y.2]], []⟩) := by rw [n04n_e]; kernel_rfl

theorem n04n_l : LoopsOk G58 ⟨0, 33, n04n_loops⟩ (Try.f33.body.getD .skip) :=
  loopsOk_of (ids := []) (by kernel_rfl) (by kernel_rfl) trivial

theorem n04n_c : Contract Try.prog 33 n04n_g := by
  refine told G58_ok follows Try.func33 (c := Try.f33.body.getD .skip) (by kernel_rfl) ?_
  intro args s k r hk
  unfold n04n_g at hk
  rcases onPats_inv hk with ⟨p, q, rfl, rfl⟩ | hk
  · exact ⟨n04n_loops, n04n_q p.1.1 p.1.2.1 p.1.2.2.1 p.1.2.2.2.1 p.1.2.2.2.2.1 p.1.2.2.2.2.2.1 p.1.2.2.2.2.2.2.1 p.1.2.2.2.2.2.2.2.1 p.2.1 p.2.2.1, n04n_y p.1.1 p.1.2.1 p.1.2.2.1 p.1.2.2.2.1 p.1.2.2.2.2.1 p.1.2.2.2.2.2.1 p.1.2.2.2.2.2.2.1 p.1.2.2.2.2.2.2.2.1 p.2.1 p.2.2.1, n04n_l⟩
  cases hk

def G59 : Glob := G58.add 33 n04n_g

theorem G59_ok : GlobOk Try.prog G59 := G58_ok.add ⟨Try.f33, Try.func33, by kernel_rfl, by kernel_rfl⟩ n04n_c



def n00n_loops : Nat → Option LoopSpec
  | 2000004 => some ⟨[0, 2, 4, 6, 8, 10, 12, 14, 16, 19, 20, 22, 24, 26, 28], [], fun _ _ _ => none⟩
  | _ => none

theorem n00n_y (a0 : (List dVersion)) (a1 : (List dTxn)) (a2 : (List dTxn)) (a3 : Int) (a4 : Int) (a5 : (List dTxn)) (a6 : Int) (a7 : ByteArray) : execFn G59 n00n_loops Try.f71 [.agg [.lst tVersion a0, .lst tTxn a1, .lst tTxn a2, .int .i64 a3, .int .i64 a4, .lst tTxn a5], .int .i64 a6, .str a7] [] = n00n_k ((a0, (a1, (a2, (a3, a4)))), a5) a6 a7 (fun (y : q37T) => some ⟨.ret, [.tup [.agg [.own 0, .own 1, .own 2, .int .i64 y.1, .int .i64 y.2.1, .own 3], .str y.2.2.1, .bool y.2.2.2.1, .int .i64 y.2.2.2.2.1]], [.arr tVersion y.2.2.2.2.2.1, .dep tTxn y.2.2.2.2.2.2.1 0, .dep tTxn y.2.2.2.2.2.2.2.1 0, .dep tTxn y.2.2.2.2.2.2.2.2 0]⟩) := by rw [n00n_e]; kernel_rfl

theorem n00n_l : LoopsOk G59 ⟨0, 47, n00n_loops⟩ (Try.f71.body.getD .skip) :=
  loopsOk_of (ids := []) (by kernel_rfl) (by kernel_rfl) trivial

theorem n00n_c : Contract Try.prog 71 n00n_g := by
  refine told G59_ok follows Try.func71 (c := Try.f71.body.getD .skip) (by kernel_rfl) ?_
  intro args s k r hk
  unfold n00n_g at hk
  rcases onPats_inv hk with ⟨p, q, rfl, rfl⟩ | hk
  · exact ⟨n00n_loops, n00n_q p.1.1 p.1.2.1 p.1.2.2.1 p.1.2.2.2.1 p.1.2.2.2.2.1 p.1.2.2.2.2.2.1 p.2.1 p.2.2.1, n00n_y p.1.1 p.1.2.1 p.1.2.2.1 p.1.2.2.2.1 p.1.2.2.2.2.1 p.1.2.2.2.2.2.1 p.2.1 p.2.2.1, n00n_l⟩
  cases hk

def G60 : Glob := G59.add 71 n00n_g

theorem G60_ok : GlobOk Try.prog G60 := G59_ok.add ⟨Try.f71, Try.func71, by kernel_rfl, by kernel_rfl⟩ n00n_c



def n27n_loops : Nat → Option LoopSpec
  | _ => none

theorem n27n_y (a0 : ByteArray) (a1 : ByteArray) (a2 : Bool) (a3 : Int) (a4 : ByteArray) (a5 : ByteArray) (a6 : Bool) (a7 : Int) : execFn G60 n27n_loops Try.f198 [.agg [.str a0, .str a1, .bool a2, .int .i64 a3], .agg [.str a4, .str a5, .bool a6, .int .i64 a7]] [] = n27n_k (a0, (a1, (a2, a3))) (a4, (a5, (a6, a7))) (fun (y : Bool) => some ⟨.ret, [.bool y], []⟩) := by rw [n27n_e]; kernel_rfl

theorem n27n_l : LoopsOk G60 ⟨0, 25, n27n_loops⟩ (Try.f198.body.getD .skip) :=
  loopsOk_of (ids := []) (by kernel_rfl) (by kernel_rfl) trivial

theorem n27n_c : Contract Try.prog 198 n27n_g := by
  refine told G60_ok follows Try.func198 (c := Try.f198.body.getD .skip) (by kernel_rfl) ?_
  intro args s k r hk
  unfold n27n_g at hk
  rcases onPats_inv hk with ⟨p, q, rfl, rfl⟩ | hk
  · exact ⟨n27n_loops, n27n_q p.1.1 p.1.2.1 p.1.2.2.1 p.1.2.2.2.1 p.2.1.1 p.2.1.2.1 p.2.1.2.2.1 p.2.1.2.2.2.1, n27n_y p.1.1 p.1.2.1 p.1.2.2.1 p.1.2.2.2.1 p.2.1.1 p.2.1.2.1 p.2.1.2.2.1 p.2.1.2.2.2.1, n27n_l⟩
  cases hk

def G61 : Glob := G60.add 198 n27n_g

theorem G61_ok : GlobOk Try.prog G61 := G60_ok.add ⟨Try.f198, Try.func198, by kernel_rfl, by kernel_rfl⟩ n27n_c



def n28n_loops : Nat → Option LoopSpec
  | 0 => some ⟨[0, 1, 4, 5], [], fun vals st k => onPats [.lst tVersion, .lst tVersion, .bool, .int .i64] [] vals st (fun p q => loopK n28n_b0 Fuel (p.1, p.2.1, p.2.2.1, p.2.2.2.1) (Sum.elim (fun z => k .ret [.lst tVersion z.1, .lst tVersion z.2.1, .bool z.2.2.1, .int .i64 z.2.2.2] []) (fun z => k (.exit 0) [.lst tVersion z.1, .lst tVersion z.2.1, .bool z.2.2.1, .int .i64 z.2.2.2] [])))
      (none)⟩
  | 2000006 => some ⟨[0, 2, 4, 6, 8, 10, 12, 14, 16, 18], [], fun _ _ _ => none⟩
  | _ => none

def n28n_v0 : q9T → List AV := (fun x => [.lst tVersion x.1, .lst tVersion x.2.1, .bool x.2.2.1, .int .i64 x.2.2.2])
def n28n_s0 : q9T → St := (fun x => [])
def n28n_e0 : (q9T ⊕ q9T) → Out × List AV × St := (Sum.elim (fun z => (.ret, [.lst tVersion z.1, .lst tVersion z.2.1, .bool z.2.2.1, .int .i64 z.2.2.2], [])) (fun z => ((.exit 0), [.lst tVersion z.1, .lst tVersion z.2.1, .bool z.2.2.1, .int .i64 z.2.2.2], [])))

theorem n28n_bx0 (x : q9T) : exec G61 ⟨0, 27, n28n_loops⟩ (loopBody Try.f121 0) (bodyK ⟨0, 27, n28n_loops⟩ [0, 1, 4, 5] []) (setEs (deads 27) [0, 1, 4, 5] (n28n_v0 x)) (n28n_s0 x) = n28n_b0 x (Sum.elim (fun y => some ⟨.norm, n28n_v0 y, n28n_s0 y⟩) fun z => some ⟨(n28n_e0 z).1, (n28n_e0 z).2.1, (n28n_e0 z).2.2⟩) := by
  kernel_rfl

theorem n28n_lo0 : ∀ sp, (n28n_loops 0) = some sp → LoopOk G61 ⟨0, 27, n28n_loops⟩ sp (loopBody Try.f121 0) := by
  intro sp hsp vals st k r h
  cases hsp
  dsimp only at h
  rcases onPats_inv2 h with ⟨p, q, rfl, rfl, h⟩ | h
  · exact loop_runs2 n28n_bp0 n28n_v0 n28n_s0 n28n_e0 (fun z => by rcases z with z | z <;> (intro h; cases h)) n28n_bx0 Fuel (p.1, p.2.1, p.2.2.1, p.2.2.2.1) _ k r (fun z => by rcases z with z | z <;> rfl) h
  cases h

theorem n28n_y (a0 : (List dVersion)) (a1 : (List dVersion)) : execFn G61 n28n_loops Try.f121 [.lst tVersion a0, .lst tVersion a1] [] = n28n_k a0 a1 (fun (y : Bool) => some ⟨.ret, [.bool y], []⟩) := by rw [n28n_e]; kernel_rfl

theorem n28n_l : LoopsOk G61 ⟨0, 27, n28n_loops⟩ (Try.f121.body.getD .skip) :=
  loopsOk_of (ids := [0]) (by kernel_rfl) (by kernel_rfl) ⟨n28n_lo0, trivial⟩

theorem n28n_c : Contract Try.prog 121 n28n_g := by
  refine told G61_ok follows Try.func121 (c := Try.f121.body.getD .skip) (by kernel_rfl) ?_
  intro args s k r hk
  unfold n28n_g at hk
  rcases onPats_inv hk with ⟨p, q, rfl, rfl⟩ | hk
  · exact ⟨n28n_loops, n28n_q p.1 p.2.1, n28n_y p.1 p.2.1, n28n_l⟩
  cases hk

def G62 : Glob := G61.add 121 n28n_g

theorem G62_ok : GlobOk Try.prog G62 := G61_ok.add ⟨Try.f121, Try.func121, by kernel_rfl, by kernel_rfl⟩ n28n_c



def n23n_loops : Nat → Option LoopSpec
  | _ => none

theorem n23n_y (a0 : ByteArray) (a1 : ByteArray) (a2 : ByteArray) (a3 : ByteArray) : execFn G62 n23n_loops Try.f250 [.agg [.str a0, .str a1], .agg [.str a2, .str a3]] [] = n23n_k (a0, a1) (a2, a3) (fun (y : Bool) => some ⟨.ret, [.bool y], []⟩) := by rw [n23n_e]; kernel_rfl

theorem n23n_l : LoopsOk G62 ⟨0, 15, n23n_loops⟩ (Try.f250.body.getD .skip) :=
  loopsOk_of (ids := []) (by kernel_rfl) (by kernel_rfl) trivial

theorem n23n_c : Contract Try.prog 250 n23n_g := by
  refine told G62_ok follows Try.func250 (c := Try.f250.body.getD .skip) (by kernel_rfl) ?_
  intro args s k r hk
  unfold n23n_g at hk
  rcases onPats_inv hk with ⟨p, q, rfl, rfl⟩ | hk
  · exact ⟨n23n_loops, n23n_q p.1.1 p.1.2.1 p.2.1.1 p.2.1.2.1, n23n_y p.1.1 p.1.2.1 p.2.1.1 p.2.1.2.1, n23n_l⟩
  cases hk

def G63 : Glob := G62.add 250 n23n_g

theorem G63_ok : GlobOk Try.prog G63 := G62_ok.add ⟨Try.f250, Try.func250, by kernel_rfl, by kernel_rfl⟩ n23n_c



def n24n_loops : Nat → Option LoopSpec
  | 0 => some ⟨[0, 1, 4, 5], [], fun vals st k => onPats [.lst tRange, .lst tRange, .bool, .int .i64] [] vals st (fun p q => loopK n24n_b0 Fuel (p.1, p.2.1, p.2.2.1, p.2.2.2.1) (Sum.elim (fun z => k .ret [.lst tRange z.1, .lst tRange z.2.1, .bool z.2.2.1, .int .i64 z.2.2.2] []) (fun z => k (.exit 0) [.lst tRange z.1, .lst tRange z.2.1, .bool z.2.2.1, .int .i64 z.2.2.2] [])))
      (none)⟩
  | 2000006 => some ⟨[0, 2, 4, 6, 8, 10, 12, 14, 16, 18], [], fun _ _ _ => none⟩
  | _ => none

def n24n_v0 : q0T → List AV := (fun x => [.lst tRange x.1, .lst tRange x.2.1, .bool x.2.2.1, .int .i64 x.2.2.2])
def n24n_s0 : q0T → St := (fun x => [])
def n24n_e0 : (q0T ⊕ q0T) → Out × List AV × St := (Sum.elim (fun z => (.ret, [.lst tRange z.1, .lst tRange z.2.1, .bool z.2.2.1, .int .i64 z.2.2.2], [])) (fun z => ((.exit 0), [.lst tRange z.1, .lst tRange z.2.1, .bool z.2.2.1, .int .i64 z.2.2.2], [])))

theorem n24n_bx0 (x : q0T) : exec G63 ⟨0, 27, n24n_loops⟩ (loopBody Try.f184 0) (bodyK ⟨0, 27, n24n_loops⟩ [0, 1, 4, 5] []) (setEs (deads 27) [0, 1, 4, 5] (n24n_v0 x)) (n24n_s0 x) = n24n_b0 x (Sum.elim (fun y => some ⟨.norm, n24n_v0 y, n24n_s0 y⟩) fun z => some ⟨(n24n_e0 z).1, (n24n_e0 z).2.1, (n24n_e0 z).2.2⟩) := by
  kernel_rfl

theorem n24n_lo0 : ∀ sp, (n24n_loops 0) = some sp → LoopOk G63 ⟨0, 27, n24n_loops⟩ sp (loopBody Try.f184 0) := by
  intro sp hsp vals st k r h
  cases hsp
  dsimp only at h
  rcases onPats_inv2 h with ⟨p, q, rfl, rfl, h⟩ | h
  · exact loop_runs2 n24n_bp0 n24n_v0 n24n_s0 n24n_e0 (fun z => by rcases z with z | z <;> (intro h; cases h)) n24n_bx0 Fuel (p.1, p.2.1, p.2.2.1, p.2.2.2.1) _ k r (fun z => by rcases z with z | z <;> rfl) h
  cases h

theorem n24n_y (a0 : (List dRange)) (a1 : (List dRange)) : execFn G63 n24n_loops Try.f184 [.lst tRange a0, .lst tRange a1] [] = n24n_k a0 a1 (fun (y : Bool) => some ⟨.ret, [.bool y], []⟩) := by rw [n24n_e]; kernel_rfl

theorem n24n_l : LoopsOk G63 ⟨0, 27, n24n_loops⟩ (Try.f184.body.getD .skip) :=
  loopsOk_of (ids := [0]) (by kernel_rfl) (by kernel_rfl) ⟨n24n_lo0, trivial⟩

theorem n24n_c : Contract Try.prog 184 n24n_g := by
  refine told G63_ok follows Try.func184 (c := Try.f184.body.getD .skip) (by kernel_rfl) ?_
  intro args s k r hk
  unfold n24n_g at hk
  rcases onPats_inv hk with ⟨p, q, rfl, rfl⟩ | hk
  · exact ⟨n24n_loops, n24n_q p.1 p.2.1, n24n_y p.1 p.2.1, n24n_l⟩
  cases hk

def G64 : Glob := G63.add 184 n24n_g

theorem G64_ok : GlobOk Try.prog G64 := G63_ok.add ⟨Try.f184, Try.func184, by kernel_rfl, by kernel_rfl⟩ n24n_c



def n29n_loops : Nat → Option LoopSpec
  | _ => none

theorem n29n_y (a0 : ByteArray) (a1 : ByteArray) (a2 : Bool) (a3 : ByteArray) (a4 : ByteArray) (a5 : Bool) : execFn G64 n29n_loops Try.f251 [.agg [.str a0, .str a1, .bool a2], .agg [.str a3, .str a4, .bool a5]] [] = n29n_k (a0, (a1, a2)) (a3, (a4, a5)) (fun (y : Bool) => some ⟨.ret, [.bool y], []⟩) := by rw [n29n_e]; kernel_rfl

theorem n29n_l : LoopsOk G64 ⟨0, 20, n29n_loops⟩ (Try.f251.body.getD .skip) :=
  loopsOk_of (ids := []) (by kernel_rfl) (by kernel_rfl) trivial

theorem n29n_c : Contract Try.prog 251 n29n_g := by
  refine told G64_ok follows Try.func251 (c := Try.f251.body.getD .skip) (by kernel_rfl) ?_
  intro args s k r hk
  unfold n29n_g at hk
  rcases onPats_inv hk with ⟨p, q, rfl, rfl⟩ | hk
  · exact ⟨n29n_loops, n29n_q p.1.1 p.1.2.1 p.1.2.2.1 p.2.1.1 p.2.1.2.1 p.2.1.2.2.1, n29n_y p.1.1 p.1.2.1 p.1.2.2.1 p.2.1.1 p.2.1.2.1 p.2.1.2.2.1, n29n_l⟩
  cases hk

def G65 : Glob := G64.add 251 n29n_g

theorem G65_ok : GlobOk Try.prog G65 := G64_ok.add ⟨Try.f251, Try.func251, by kernel_rfl, by kernel_rfl⟩ n29n_c



def n30n_loops : Nat → Option LoopSpec
  | 0 => some ⟨[0, 1, 4, 5], [], fun vals st k => onPats [.lst tWrite, .lst tWrite, .bool, .int .i64] [] vals st (fun p q => loopK n30n_b0 Fuel (p.1, p.2.1, p.2.2.1, p.2.2.2.1) (Sum.elim (fun z => k .ret [.lst tWrite z.1, .lst tWrite z.2.1, .bool z.2.2.1, .int .i64 z.2.2.2] []) (fun z => k (.exit 0) [.lst tWrite z.1, .lst tWrite z.2.1, .bool z.2.2.1, .int .i64 z.2.2.2] [])))
      (none)⟩
  | 2000006 => some ⟨[0, 2, 4, 6, 8, 10, 12, 14, 16, 18], [], fun _ _ _ => none⟩
  | _ => none

def n30n_v0 : q15T → List AV := (fun x => [.lst tWrite x.1, .lst tWrite x.2.1, .bool x.2.2.1, .int .i64 x.2.2.2])
def n30n_s0 : q15T → St := (fun x => [])
def n30n_e0 : (q15T ⊕ q15T) → Out × List AV × St := (Sum.elim (fun z => (.ret, [.lst tWrite z.1, .lst tWrite z.2.1, .bool z.2.2.1, .int .i64 z.2.2.2], [])) (fun z => ((.exit 0), [.lst tWrite z.1, .lst tWrite z.2.1, .bool z.2.2.1, .int .i64 z.2.2.2], [])))

theorem n30n_bx0 (x : q15T) : exec G65 ⟨0, 27, n30n_loops⟩ (loopBody Try.f185 0) (bodyK ⟨0, 27, n30n_loops⟩ [0, 1, 4, 5] []) (setEs (deads 27) [0, 1, 4, 5] (n30n_v0 x)) (n30n_s0 x) = n30n_b0 x (Sum.elim (fun y => some ⟨.norm, n30n_v0 y, n30n_s0 y⟩) fun z => some ⟨(n30n_e0 z).1, (n30n_e0 z).2.1, (n30n_e0 z).2.2⟩) := by
  kernel_rfl

theorem n30n_lo0 : ∀ sp, (n30n_loops 0) = some sp → LoopOk G65 ⟨0, 27, n30n_loops⟩ sp (loopBody Try.f185 0) := by
  intro sp hsp vals st k r h
  cases hsp
  dsimp only at h
  rcases onPats_inv2 h with ⟨p, q, rfl, rfl, h⟩ | h
  · exact loop_runs2 n30n_bp0 n30n_v0 n30n_s0 n30n_e0 (fun z => by rcases z with z | z <;> (intro h; cases h)) n30n_bx0 Fuel (p.1, p.2.1, p.2.2.1, p.2.2.2.1) _ k r (fun z => by rcases z with z | z <;> rfl) h
  cases h

theorem n30n_y (a0 : (List dWrite)) (a1 : (List dWrite)) : execFn G65 n30n_loops Try.f185 [.lst tWrite a0, .lst tWrite a1] [] = n30n_k a0 a1 (fun (y : Bool) => some ⟨.ret, [.bool y], []⟩) := by rw [n30n_e]; kernel_rfl

theorem n30n_l : LoopsOk G65 ⟨0, 27, n30n_loops⟩ (Try.f185.body.getD .skip) :=
  loopsOk_of (ids := [0]) (by kernel_rfl) (by kernel_rfl) ⟨n30n_lo0, trivial⟩

theorem n30n_c : Contract Try.prog 185 n30n_g := by
  refine told G65_ok follows Try.func185 (c := Try.f185.body.getD .skip) (by kernel_rfl) ?_
  intro args s k r hk
  unfold n30n_g at hk
  rcases onPats_inv hk with ⟨p, q, rfl, rfl⟩ | hk
  · exact ⟨n30n_loops, n30n_q p.1 p.2.1, n30n_y p.1 p.2.1, n30n_l⟩
  cases hk

def G66 : Glob := G65.add 185 n30n_g

theorem G66_ok : GlobOk Try.prog G66 := G65_ok.add ⟨Try.f185, Try.func185, by kernel_rfl, by kernel_rfl⟩ n30n_c



def n25n_loops : Nat → Option LoopSpec
  | _ => none

theorem n25n_y (a0 : Int) (a1 : Int) (a2 : Int) (a3 : Int) (a4 : (List dRange)) (a5 : (List dWrite)) (a6 : Bool) (a7 : ByteArray) (a8 : Int) (a9 : Int) (a10 : Int) (a11 : Int) (a12 : (List dRange)) (a13 : (List dWrite)) (a14 : Bool) (a15 : ByteArray) : execFn G66 n25n_loops Try.f104 [.agg [.int .i64 a0, .int .i64 a1, .int .i64 a2, .int .i64 a3, .lst tRange a4, .lst tWrite a5, .bool a6, .str a7], .agg [.int .i64 a8, .int .i64 a9, .int .i64 a10, .int .i64 a11, .lst tRange a12, .lst tWrite a13, .bool a14, .str a15]] [] = n25n_k (a0, (a1, (a2, (a3, (a4, (a5, (a6, a7))))))) (a8, (a9, (a10, (a11, (a12, (a13, (a14, a15))))))) (fun (y : Bool) => some ⟨.ret, [.bool y], []⟩) := by rw [n25n_e]; kernel_rfl

theorem n25n_l : LoopsOk G66 ⟨0, 47, n25n_loops⟩ (Try.f104.body.getD .skip) :=
  loopsOk_of (ids := []) (by kernel_rfl) (by kernel_rfl) trivial

theorem n25n_c : Contract Try.prog 104 n25n_g := by
  refine told G66_ok follows Try.func104 (c := Try.f104.body.getD .skip) (by kernel_rfl) ?_
  intro args s k r hk
  unfold n25n_g at hk
  rcases onPats_inv hk with ⟨p, q, rfl, rfl⟩ | hk
  · exact ⟨n25n_loops, n25n_q p.1.1 p.1.2.1 p.1.2.2.1 p.1.2.2.2.1 p.1.2.2.2.2.1 p.1.2.2.2.2.2.1 p.1.2.2.2.2.2.2.1 p.1.2.2.2.2.2.2.2.1 p.2.1.1 p.2.1.2.1 p.2.1.2.2.1 p.2.1.2.2.2.1 p.2.1.2.2.2.2.1 p.2.1.2.2.2.2.2.1 p.2.1.2.2.2.2.2.2.1 p.2.1.2.2.2.2.2.2.2.1, n25n_y p.1.1 p.1.2.1 p.1.2.2.1 p.1.2.2.2.1 p.1.2.2.2.2.1 p.1.2.2.2.2.2.1 p.1.2.2.2.2.2.2.1 p.1.2.2.2.2.2.2.2.1 p.2.1.1 p.2.1.2.1 p.2.1.2.2.1 p.2.1.2.2.2.1 p.2.1.2.2.2.2.1 p.2.1.2.2.2.2.2.1 p.2.1.2.2.2.2.2.2.1 p.2.1.2.2.2.2.2.2.2.1, n25n_l⟩
  cases hk

def G67 : Glob := G66.add 104 n25n_g

theorem G67_ok : GlobOk Try.prog G67 := G66_ok.add ⟨Try.f104, Try.func104, by kernel_rfl, by kernel_rfl⟩ n25n_c



def n26n_loops : Nat → Option LoopSpec
  | 0 => some ⟨[0, 1, 4, 5], [], fun vals st k => onPats [.lst tTxn, .lst tTxn, .bool, .int .i64] [] vals st (fun p q => loopK n26n_b0 Fuel (p.1, p.2.1, p.2.2.1, p.2.2.2.1) (Sum.elim (fun z => k .ret [.lst tTxn z.1, .lst tTxn z.2.1, .bool z.2.2.1, .int .i64 z.2.2.2] []) (fun z => k (.exit 0) [.lst tTxn z.1, .lst tTxn z.2.1, .bool z.2.2.1, .int .i64 z.2.2.2] [])))
      (none)⟩
  | 2000006 => some ⟨[0, 2, 4, 6, 8, 10, 12, 14, 16, 18], [], fun _ _ _ => none⟩
  | _ => none

def n26n_v0 : q4T → List AV := (fun x => [.lst tTxn x.1, .lst tTxn x.2.1, .bool x.2.2.1, .int .i64 x.2.2.2])
def n26n_s0 : q4T → St := (fun x => [])
def n26n_e0 : (q4T ⊕ q4T) → Out × List AV × St := (Sum.elim (fun z => (.ret, [.lst tTxn z.1, .lst tTxn z.2.1, .bool z.2.2.1, .int .i64 z.2.2.2], [])) (fun z => ((.exit 0), [.lst tTxn z.1, .lst tTxn z.2.1, .bool z.2.2.1, .int .i64 z.2.2.2], [])))

theorem n26n_bx0 (x : q4T) : exec G67 ⟨0, 27, n26n_loops⟩ (loopBody Try.f52 0) (bodyK ⟨0, 27, n26n_loops⟩ [0, 1, 4, 5] []) (setEs (deads 27) [0, 1, 4, 5] (n26n_v0 x)) (n26n_s0 x) = n26n_b0 x (Sum.elim (fun y => some ⟨.norm, n26n_v0 y, n26n_s0 y⟩) fun z => some ⟨(n26n_e0 z).1, (n26n_e0 z).2.1, (n26n_e0 z).2.2⟩) := by
  kernel_rfl

theorem n26n_lo0 : ∀ sp, (n26n_loops 0) = some sp → LoopOk G67 ⟨0, 27, n26n_loops⟩ sp (loopBody Try.f52 0) := by
  intro sp hsp vals st k r h
  cases hsp
  dsimp only at h
  rcases onPats_inv2 h with ⟨p, q, rfl, rfl, h⟩ | h
  · exact loop_runs2 n26n_bp0 n26n_v0 n26n_s0 n26n_e0 (fun z => by rcases z with z | z <;> (intro h; cases h)) n26n_bx0 Fuel (p.1, p.2.1, p.2.2.1, p.2.2.2.1) _ k r (fun z => by rcases z with z | z <;> rfl) h
  cases h

theorem n26n_y (a0 : (List dTxn)) (a1 : (List dTxn)) : execFn G67 n26n_loops Try.f52 [.lst tTxn a0, .lst tTxn a1] [] = n26n_k a0 a1 (fun (y : Bool) => some ⟨.ret, [.bool y], []⟩) := by rw [n26n_e]; kernel_rfl

theorem n26n_l : LoopsOk G67 ⟨0, 27, n26n_loops⟩ (Try.f52.body.getD .skip) :=
  loopsOk_of (ids := [0]) (by kernel_rfl) (by kernel_rfl) ⟨n26n_lo0, trivial⟩

theorem n26n_c : Contract Try.prog 52 n26n_g := by
  refine told G67_ok follows Try.func52 (c := Try.f52.body.getD .skip) (by kernel_rfl) ?_
  intro args s k r hk
  unfold n26n_g at hk
  rcases onPats_inv hk with ⟨p, q, rfl, rfl⟩ | hk
  · exact ⟨n26n_loops, n26n_q p.1 p.2.1, n26n_y p.1 p.2.1, n26n_l⟩
  cases hk

def G68 : Glob := G67.add 52 n26n_g

theorem G68_ok : GlobOk Try.prog G68 := G67_ok.add ⟨Try.f52, Try.func52, by kernel_rfl, by kernel_rfl⟩ n26n_c



def n21n_loops : Nat → Option LoopSpec
  | _ => none

theorem n21n_y (a0 : (List dVersion)) (a1 : (List dTxn)) (a2 : (List dTxn)) (a3 : Int) (a4 : Int) (a5 : (List dVersion)) (a6 : (List dTxn)) (a7 : (List dTxn)) (a8 : Int) (a9 : Int) : execFn G68 n21n_loops Try.f51 [.agg [.lst tVersion a0, .lst tTxn a1, .lst tTxn a2, .int .i64 a3, .int .i64 a4], .agg [.lst tVersion a5, .lst tTxn a6, .lst tTxn a7, .int .i64 a8, .int .i64 a9]] [] = n21n_k (a0, (a1, (a2, (a3, a4)))) (a5, (a6, (a7, (a8, a9)))) (fun (y : Bool) => some ⟨.ret, [.bool y], []⟩) := by rw [n21n_e]; kernel_rfl

theorem n21n_l : LoopsOk G68 ⟨0, 33, n21n_loops⟩ (Try.f51.body.getD .skip) :=
  loopsOk_of (ids := []) (by kernel_rfl) (by kernel_rfl) trivial

theorem n21n_c : Contract Try.prog 51 n21n_g := by
  refine told G68_ok follows Try.func51 (c := Try.f51.body.getD .skip) (by kernel_rfl) ?_
  intro args s k r hk
  unfold n21n_g at hk
  rcases onPats_inv hk with ⟨p, q, rfl, rfl⟩ | hk
  · exact ⟨n21n_loops, n21n_q p.1.1 p.1.2.1 p.1.2.2.1 p.1.2.2.2.1 p.1.2.2.2.2.1 p.2.1.1 p.2.1.2.1 p.2.1.2.2.1 p.2.1.2.2.2.1 p.2.1.2.2.2.2.1, n21n_y p.1.1 p.1.2.1 p.1.2.2.1 p.1.2.2.2.1 p.1.2.2.2.2.1 p.2.1.1 p.2.1.2.1 p.2.1.2.2.1 p.2.1.2.2.2.1 p.2.1.2.2.2.2.1, n21n_l⟩
  cases hk

def G69 : Glob := G68.add 51 n21n_g

theorem G69_ok : GlobOk Try.prog G69 := G68_ok.add ⟨Try.f51, Try.func51, by kernel_rfl, by kernel_rfl⟩ n21n_c



def n22n_loops : Nat → Option LoopSpec
  | _ => none

theorem n22n_y (a0 : (List dVersion)) (a1 : (List dTxn)) (a2 : (List dTxn)) (a3 : Int) (a4 : Int) (a5 : (List dTxn)) (a6 : (List dVersion)) (a7 : (List dTxn)) (a8 : (List dTxn)) (a9 : Int) (a10 : Int) (a11 : (List dTxn)) : execFn G69 n22n_loops Try.f27 [.agg [.lst tVersion a0, .lst tTxn a1, .lst tTxn a2, .int .i64 a3, .int .i64 a4, .lst tTxn a5], .agg [.lst tVersion a6, .lst tTxn a7, .lst tTxn a8, .int .i64 a9, .int .i64 a10, .lst tTxn a11]] [] = n22n_k ((a0, (a1, (a2, (a3, a4)))), a5) ((a6, (a7, (a8, (a9, a10)))), a11) (fun (y : Bool) => some ⟨.ret, [.bool y], []⟩) := by rw [n22n_e]; kernel_rfl

theorem n22n_l : LoopsOk G69 ⟨0, 17, n22n_loops⟩ (Try.f27.body.getD .skip) :=
  loopsOk_of (ids := []) (by kernel_rfl) (by kernel_rfl) trivial

theorem n22n_c : Contract Try.prog 27 n22n_g := by
  refine told G69_ok follows Try.func27 (c := Try.f27.body.getD .skip) (by kernel_rfl) ?_
  intro args s k r hk
  unfold n22n_g at hk
  rcases onPats_inv hk with ⟨p, q, rfl, rfl⟩ | hk
  · exact ⟨n22n_loops, n22n_q p.1.1 p.1.2.1 p.1.2.2.1 p.1.2.2.2.1 p.1.2.2.2.2.1 p.1.2.2.2.2.2.1 p.2.1.1 p.2.1.2.1 p.2.1.2.2.1 p.2.1.2.2.2.1 p.2.1.2.2.2.2.1 p.2.1.2.2.2.2.2.1, n22n_y p.1.1 p.1.2.1 p.1.2.2.1 p.1.2.2.2.1 p.1.2.2.2.2.1 p.1.2.2.2.2.2.1 p.2.1.1 p.2.1.2.1 p.2.1.2.2.1 p.2.1.2.2.2.1 p.2.1.2.2.2.2.1 p.2.1.2.2.2.2.2.1, n22n_l⟩
  cases hk

def G70 : Glob := G69.add 27 n22n_g

theorem G70_ok : GlobOk Try.prog G70 := G69_ok.add ⟨Try.f27, Try.func27, by kernel_rfl, by kernel_rfl⟩ n22n_c



def n40n_loops : Nat → Option LoopSpec
  | 0 => some ⟨[0, 3], [], fun vals st k => onPats [.int .i64, .str] [] vals st (fun p q => loopK n40n_b0 Fuel (p.1, p.2.1) (fun z => k (.exit 0) [.int .i64 z.1, .str z.2] []))
      (none)⟩
  | _ => none

def n40n_v0 : (Int × ByteArray) → List AV := (fun x => [.int .i64 x.1, .str x.2])
def n40n_s0 : (Int × ByteArray) → St := (fun x => [])
def n40n_e0 : (Int × ByteArray) → Out × List AV × St := (fun z => ((.exit 0), [.int .i64 z.1, .str z.2], []))

theorem n40n_bx0 (x : (Int × ByteArray)) : exec G70 ⟨0, 20, n40n_loops⟩ (loopBody Try.f76 0) (bodyK ⟨0, 20, n40n_loops⟩ [0, 3] []) (setEs (deads 20) [0, 3] (n40n_v0 x)) (n40n_s0 x) = n40n_b0 x (Sum.elim (fun y => some ⟨.norm, n40n_v0 y, n40n_s0 y⟩) fun z => some ⟨(n40n_e0 z).1, (n40n_e0 z).2.1, (n40n_e0 z).2.2⟩) := by
  kernel_rfl

theorem n40n_lo0 : ∀ sp, (n40n_loops 0) = some sp → LoopOk G70 ⟨0, 20, n40n_loops⟩ sp (loopBody Try.f76 0) := by
  intro sp hsp vals st k r h
  cases hsp
  dsimp only at h
  rcases onPats_inv2 h with ⟨p, q, rfl, rfl, h⟩ | h
  · exact loop_runs2 n40n_bp0 n40n_v0 n40n_s0 n40n_e0 (fun z => by (intro h; cases h)) n40n_bx0 Fuel (p.1, p.2.1) _ k r (fun z => rfl) h
  cases h

theorem n40n_y (a0 : Int) : execFn G70 n40n_loops Try.f76 [.int .i64 a0] [] = n40n_k a0 (fun (y : ByteArray) => some ⟨.ret, [.str y], []⟩) := by rw [n40n_e]; kernel_rfl

theorem n40n_l : LoopsOk G70 ⟨0, 20, n40n_loops⟩ (Try.f76.body.getD .skip) :=
  loopsOk_of (ids := [0]) (by kernel_rfl) (by kernel_rfl) ⟨n40n_lo0, trivial⟩

theorem n40n_c : Contract Try.prog 76 n40n_g := by
  refine told G70_ok follows Try.func76 (c := Try.f76.body.getD .skip) (by kernel_rfl) ?_
  intro args s k r hk
  unfold n40n_g at hk
  rcases onPats_inv hk with ⟨p, q, rfl, rfl⟩ | hk
  · exact ⟨n40n_loops, n40n_q p.1, n40n_y p.1, n40n_l⟩
  cases hk

def G71 : Glob := G70.add 76 n40n_g

theorem G71_ok : GlobOk Try.prog G71 := G70_ok.add ⟨Try.f76, Try.func76, by kernel_rfl, by kernel_rfl⟩ n40n_c



def n42n_loops : Nat → Option LoopSpec
  | 0 => some ⟨[0, 1, 5], [], fun vals st k => onPats [.own 0, .int .i64, .int .i64] [.arr tVersion] vals st (fun p q => loopK n42n_b0 Fuel (p.2.1, p.2.2.1, q.1) (fun z => k (.exit 0) [.own 0, .int .i64 z.1, .int .i64 z.2.1] [.arr tVersion z.2.2]))
      (none)⟩
  | _ => none

def n42n_v0 : (Int × Int × (List dVersion)) → List AV := (fun x => [.own 0, .int .i64 x.1, .int .i64 x.2.1])
def n42n_s0 : (Int × Int × (List dVersion)) → St := (fun x => [.arr tVersion x.2.2])
def n42n_e0 : (Int × Int × (List dVersion)) → Out × List AV × St := (fun z => ((.exit 0), [.own 0, .int .i64 z.1, .int .i64 z.2.1], [.arr tVersion z.2.2]))

theorem n42n_bx0 (x : (Int × Int × (List dVersion))) : exec G71 ⟨1, 45, n42n_loops⟩ (loopBody Try.f122 0) (bodyK ⟨1, 45, n42n_loops⟩ [0, 1, 5] []) (setEs (deads 45) [0, 1, 5] (n42n_v0 x)) (n42n_s0 x) = n42n_b0 x (Sum.elim (fun y => some ⟨.norm, n42n_v0 y, n42n_s0 y⟩) fun z => some ⟨(n42n_e0 z).1, (n42n_e0 z).2.1, (n42n_e0 z).2.2⟩) := by
  kernel_rfl

theorem n42n_lo0 : ∀ sp, (n42n_loops 0) = some sp → LoopOk G71 ⟨1, 45, n42n_loops⟩ sp (loopBody Try.f122 0) := by
  intro sp hsp vals st k r h
  cases hsp
  dsimp only at h
  rcases onPats_inv2 h with ⟨p, q, rfl, rfl, h⟩ | h
  · exact loop_runs2 n42n_bp0 n42n_v0 n42n_s0 n42n_e0 (fun z => by (intro h; cases h)) n42n_bx0 Fuel (p.2.1, p.2.2.1, q.1) _ k r (fun z => rfl) h
  cases h

theorem n42n_y (a0 : Int) (a1 : (List dVersion)) : execFn G71 n42n_loops Try.f122 [.own 0, .int .i64 a0] [.arr tVersion a1] = n42n_k a0 a1 (fun (y : (Int × (List dVersion))) => some ⟨.ret, [.int .i64 y.1], [.arr tVersion y.2]⟩) := by rw [n42n_e]; kernel_rfl

theorem n42n_l : LoopsOk G71 ⟨1, 45, n42n_loops⟩ (Try.f122.body.getD .skip) :=
  loopsOk_of (ids := [0]) (by kernel_rfl) (by kernel_rfl) ⟨n42n_lo0, trivial⟩

theorem laws_markVersionS_c : Contract Try.prog 122 laws_markVersionS_g := by
  refine told G71_ok follows Try.func122 (c := Try.f122.body.getD .skip) (by kernel_rfl) ?_
  intro args s k r hk
  unfold laws_markVersionS_g at hk
  rcases onPats_inv hk with ⟨p, q, rfl, rfl⟩ | hk
  · exact ⟨n42n_loops, n42n_q p.2.1 q.1, n42n_y p.2.1 q.1, n42n_l⟩
  cases hk

def G72 : Glob := G71.add 122 laws_markVersionS_g

theorem G72_ok : GlobOk Try.prog G72 := G71_ok.add ⟨Try.f122, Try.func122, by kernel_rfl, by kernel_rfl⟩ laws_markVersionS_c



def n39n_loops : Nat → Option LoopSpec
  | 0 => some ⟨[0, 1, 5], [], fun vals st k => onPats [.own 0, .int .i64, .int .i64] [.arr tRange] vals st (fun p q => loopK n39n_b0 Fuel (p.2.1, p.2.2.1, q.1) (fun z => k (.exit 0) [.own 0, .int .i64 z.1, .int .i64 z.2.1] [.arr tRange z.2.2]))
      (none)⟩
  | _ => none

def n39n_v0 : (Int × Int × (List dRange)) → List AV := (fun x => [.own 0, .int .i64 x.1, .int .i64 x.2.1])
def n39n_s0 : (Int × Int × (List dRange)) → St := (fun x => [.arr tRange x.2.2])
def n39n_e0 : (Int × Int × (List dRange)) → Out × List AV × St := (fun z => ((.exit 0), [.own 0, .int .i64 z.1, .int .i64 z.2.1], [.arr tRange z.2.2]))

theorem n39n_bx0 (x : (Int × Int × (List dRange))) : exec G72 ⟨1, 29, n39n_loops⟩ (loopBody Try.f123 0) (bodyK ⟨1, 29, n39n_loops⟩ [0, 1, 5] []) (setEs (deads 29) [0, 1, 5] (n39n_v0 x)) (n39n_s0 x) = n39n_b0 x (Sum.elim (fun y => some ⟨.norm, n39n_v0 y, n39n_s0 y⟩) fun z => some ⟨(n39n_e0 z).1, (n39n_e0 z).2.1, (n39n_e0 z).2.2⟩) := by
  kernel_rfl

theorem n39n_lo0 : ∀ sp, (n39n_loops 0) = some sp → LoopOk G72 ⟨1, 29, n39n_loops⟩ sp (loopBody Try.f123 0) := by
  intro sp hsp vals st k r h
  cases hsp
  dsimp only at h
  rcases onPats_inv2 h with ⟨p, q, rfl, rfl, h⟩ | h
  · exact loop_runs2 n39n_bp0 n39n_v0 n39n_s0 n39n_e0 (fun z => by (intro h; cases h)) n39n_bx0 Fuel (p.2.1, p.2.2.1, q.1) _ k r (fun z => rfl) h
  cases h

theorem n39n_y (a0 : Int) (a1 : (List dRange)) : execFn G72 n39n_loops Try.f123 [.own 0, .int .i64 a0] [.arr tRange a1] = n39n_k a0 a1 (fun (y : (Int × (List dRange))) => some ⟨.ret, [.int .i64 y.1], [.arr tRange y.2]⟩) := by rw [n39n_e]; kernel_rfl

theorem n39n_l : LoopsOk G72 ⟨1, 29, n39n_loops⟩ (Try.f123.body.getD .skip) :=
  loopsOk_of (ids := [0]) (by kernel_rfl) (by kernel_rfl) ⟨n39n_lo0, trivial⟩

theorem laws_markRangeS_c : Contract Try.prog 123 laws_markRangeS_g := by
  refine told G72_ok follows Try.func123 (c := Try.f123.body.getD .skip) (by kernel_rfl) ?_
  intro args s k r hk
  unfold laws_markRangeS_g at hk
  rcases onPats_inv hk with ⟨p, q, rfl, rfl⟩ | hk
  · exact ⟨n39n_loops, n39n_q p.2.1 q.1, n39n_y p.2.1 q.1, n39n_l⟩
  cases hk

def G73 : Glob := G72.add 123 laws_markRangeS_g

theorem G73_ok : GlobOk Try.prog G73 := G72_ok.add ⟨Try.f123, Try.func123, by kernel_rfl, by kernel_rfl⟩ laws_markRangeS_c



def n43n_loops : Nat → Option LoopSpec
  | 0 => some ⟨[0, 1, 5], [], fun vals st k => onPats [.own 0, .int .i64, .int .i64] [.arr tWrite] vals st (fun p q => loopK n43n_b0 Fuel (p.2.1, p.2.2.1, q.1) (fun z => k (.exit 0) [.own 0, .int .i64 z.1, .int .i64 z.2.1] [.arr tWrite z.2.2]))
      (none)⟩
  | _ => none

def n43n_v0 : (Int × Int × (List dWrite)) → List AV := (fun x => [.own 0, .int .i64 x.1, .int .i64 x.2.1])
def n43n_s0 : (Int × Int × (List dWrite)) → St := (fun x => [.arr tWrite x.2.2])
def n43n_e0 : (Int × Int × (List dWrite)) → Out × List AV × St := (fun z => ((.exit 0), [.own 0, .int .i64 z.1, .int .i64 z.2.1], [.arr tWrite z.2.2]))

theorem n43n_bx0 (x : (Int × Int × (List dWrite))) : exec G73 ⟨1, 38, n43n_loops⟩ (loopBody Try.f124 0) (bodyK ⟨1, 38, n43n_loops⟩ [0, 1, 5] []) (setEs (deads 38) [0, 1, 5] (n43n_v0 x)) (n43n_s0 x) = n43n_b0 x (Sum.elim (fun y => some ⟨.norm, n43n_v0 y, n43n_s0 y⟩) fun z => some ⟨(n43n_e0 z).1, (n43n_e0 z).2.1, (n43n_e0 z).2.2⟩) := by
  kernel_rfl

theorem n43n_lo0 : ∀ sp, (n43n_loops 0) = some sp → LoopOk G73 ⟨1, 38, n43n_loops⟩ sp (loopBody Try.f124 0) := by
  intro sp hsp vals st k r h
  cases hsp
  dsimp only at h
  rcases onPats_inv2 h with ⟨p, q, rfl, rfl, h⟩ | h
  · exact loop_runs2 n43n_bp0 n43n_v0 n43n_s0 n43n_e0 (fun z => by (intro h; cases h)) n43n_bx0 Fuel (p.2.1, p.2.2.1, q.1) _ k r (fun z => rfl) h
  cases h

theorem n43n_y (a0 : Int) (a1 : (List dWrite)) : execFn G73 n43n_loops Try.f124 [.own 0, .int .i64 a0] [.arr tWrite a1] = n43n_k a0 a1 (fun (y : (Int × (List dWrite))) => some ⟨.ret, [.int .i64 y.1], [.arr tWrite y.2]⟩) := by rw [n43n_e]; kernel_rfl

theorem n43n_l : LoopsOk G73 ⟨1, 38, n43n_loops⟩ (Try.f124.body.getD .skip) :=
  loopsOk_of (ids := [0]) (by kernel_rfl) (by kernel_rfl) ⟨n43n_lo0, trivial⟩

theorem laws_markWriteS_c : Contract Try.prog 124 laws_markWriteS_g := by
  refine told G73_ok follows Try.func124 (c := Try.f124.body.getD .skip) (by kernel_rfl) ?_
  intro args s k r hk
  unfold laws_markWriteS_g at hk
  rcases onPats_inv hk with ⟨p, q, rfl, rfl⟩ | hk
  · exact ⟨n43n_loops, n43n_q p.2.1 q.1, n43n_y p.2.1 q.1, n43n_l⟩
  cases hk

def G74 : Glob := G73.add 124 laws_markWriteS_g

theorem G74_ok : GlobOk Try.prog G74 := G73_ok.add ⟨Try.f124, Try.func124, by kernel_rfl, by kernel_rfl⟩ laws_markWriteS_c



def n41n_loops : Nat → Option LoopSpec
  | 5000003 => some ⟨[0, 1, 5], [], fun vals st k => onPats [.own 0, .int .i64, .int .i64] [.dep tTxn 0] vals st (fun p q => n41n_j5000003 (p.2.1, p.2.2.1, q.1) (fun z => k .norm [.own 0, .int .i64 z.1, .int .i64 z.2.1] [.dep tTxn z.2.2 0]))
      (none)⟩
  | 5000017 => some ⟨[0, 1, 5], [], fun vals st k => onPats [.own 0, .int .i64, .int .i64] [.dep tTxn 0] vals st (fun p q => n41n_j5000017 (p.2.1, p.2.2.1, q.1) (fun z => k .norm [.own 0, .int .i64 z.1, .int .i64 z.2.1] [.dep tTxn z.2.2 0]))
      (none)⟩
  | 5000015 => some ⟨[0, 1, 5], [], fun vals st k => onPats [.own 0, .int .i64, .int .i64] [.dep tTxn 0] vals st (fun p q => n41n_j5000015 (p.2.1, p.2.2.1, q.1) (fun z => k .norm [.own 0, .int .i64 z.1, .int .i64 z.2.1] [.dep tTxn z.2.2 0]))
      (none)⟩
  | 5000011 => some ⟨[0, 1, 5], [], fun vals st k => onPats [.own 0, .int .i64, .int .i64] [.dep tTxn 0] vals st (fun p q => n41n_j5000011 (p.2.1, p.2.2.1, q.1) (fun z => k .norm [.own 0, .int .i64 z.1, .int .i64 z.2.1] [.dep tTxn z.2.2 0]))
      (none)⟩
  | 5000009 => some ⟨[0, 1, 5], [], fun vals st k => onPats [.own 0, .int .i64, .int .i64] [.dep tTxn 0] vals st (fun p q => n41n_j5000009 (p.2.1, p.2.2.1, q.1) (fun z => k .norm [.own 0, .int .i64 z.1, .int .i64 z.2.1] [.dep tTxn z.2.2 0]))
      (none)⟩
  | 5000007 => some ⟨[0, 1, 5], [], fun vals st k => onPats [.own 0, .int .i64, .int .i64] [.dep tTxn 0] vals st (fun p q => n41n_j5000007 (p.2.1, p.2.2.1, q.1) (fun z => k .norm [.own 0, .int .i64 z.1, .int .i64 z.2.1] [.dep tTxn z.2.2 0]))
      (none)⟩
  | 5000005 => some ⟨[0, 1, 5], [], fun vals st k => onPats [.own 0, .int .i64, .int .i64] [.dep tTxn 0] vals st (fun p q => n41n_j5000005 (p.2.1, p.2.2.1, q.1) (fun z => k .norm [.own 0, .int .i64 z.1, .int .i64 z.2.1] [.dep tTxn z.2.2 0]))
      (none)⟩
  | 0 => some ⟨[0, 1, 5], [], fun vals st k => onPats [.own 0, .int .i64, .int .i64] [.dep tTxn 0] vals st (fun p q => loopK n41n_b0 Fuel (p.2.1, p.2.2.1, q.1) (fun z => k (.exit 0) [.own 0, .int .i64 z.1, .int .i64 z.2.1] [.dep tTxn z.2.2 0]))
      (none)⟩
  | _ => none

def n41n_jv5000003 : (Int × Int × (List dTxn)) → List AV := (fun x => [.own 0, .int .i64 x.1, .int .i64 x.2.1])
def n41n_js5000003 : (Int × Int × (List dTxn)) → St := (fun x => [.dep tTxn x.2.2 0])
def n41n_je5000003 : (Int × Int × (List dTxn)) → Out × List AV × St := (fun z => (.norm, [.own 0, .int .i64 z.1, .int .i64 z.2.1], [.dep tTxn z.2.2 0]))

theorem n41n_jx5000003 (x : (Int × Int × (List dTxn))) : exec G74 ⟨1, 72, n41n_loops⟩ (loopBody Try.f54 5000003) (bodyK ⟨1, 72, n41n_loops⟩ [0, 1, 5] []) (setEs (deads 72) [0, 1, 5] (n41n_jv5000003 x)) (n41n_js5000003 x) = n41n_j5000003 x (fun z => some ⟨(n41n_je5000003 z).1, (n41n_je5000003 z).2.1, (n41n_je5000003 z).2.2⟩) := by
  kernel_rfl

theorem n41n_lo5000003 : ∀ sp, (n41n_loops 5000003) = some sp → CutOk G74 ⟨1, 72, n41n_loops⟩ sp (loopBody Try.f54 5000003) := by
  intro sp hsp vals st k r h
  cases hsp
  dsimp only at h
  rcases onPats_inv2 h with ⟨p, q, rfl, rfl, h⟩ | h
  · exact cut_runs n41n_jp5000003 n41n_jv5000003 n41n_js5000003 n41n_je5000003 n41n_jx5000003 (p.2.1, p.2.2.1, q.1) _ k r (fun z => rfl) h
  cases h

def n41n_jv5000017 : (Int × Int × (List dTxn)) → List AV := (fun x => [.own 0, .int .i64 x.1, .int .i64 x.2.1])
def n41n_js5000017 : (Int × Int × (List dTxn)) → St := (fun x => [.dep tTxn x.2.2 0])
def n41n_je5000017 : (Int × Int × (List dTxn)) → Out × List AV × St := (fun z => (.norm, [.own 0, .int .i64 z.1, .int .i64 z.2.1], [.dep tTxn z.2.2 0]))

theorem n41n_jx5000017 (x : (Int × Int × (List dTxn))) : exec G74 ⟨1, 72, n41n_loops⟩ (loopBody Try.f54 5000017) (bodyK ⟨1, 72, n41n_loops⟩ [0, 1, 5] []) (setEs (deads 72) [0, 1, 5] (n41n_jv5000017 x)) (n41n_js5000017 x) = n41n_j5000017 x (fun z => some ⟨(n41n_je5000017 z).1, (n41n_je5000017 z).2.1, (n41n_je5000017 z).2.2⟩) := by
  kernel_rfl

theorem n41n_lo5000017 : ∀ sp, (n41n_loops 5000017) = some sp → CutOk G74 ⟨1, 72, n41n_loops⟩ sp (loopBody Try.f54 5000017) := by
  intro sp hsp vals st k r h
  cases hsp
  dsimp only at h
  rcases onPats_inv2 h with ⟨p, q, rfl, rfl, h⟩ | h
  · exact cut_runs n41n_jp5000017 n41n_jv5000017 n41n_js5000017 n41n_je5000017 n41n_jx5000017 (p.2.1, p.2.2.1, q.1) _ k r (fun z => rfl) h
  cases h

def n41n_jv5000015 : (Int × Int × (List dTxn)) → List AV := (fun x => [.own 0, .int .i64 x.1, .int .i64 x.2.1])
def n41n_js5000015 : (Int × Int × (List dTxn)) → St := (fun x => [.dep tTxn x.2.2 0])
def n41n_je5000015 : (Int × Int × (List dTxn)) → Out × List AV × St := (fun z => (.norm, [.own 0, .int .i64 z.1, .int .i64 z.2.1], [.dep tTxn z.2.2 0]))

theorem n41n_jx5000015 (x : (Int × Int × (List dTxn))) : exec G74 ⟨1, 72, n41n_loops⟩ (loopBody Try.f54 5000015) (bodyK ⟨1, 72, n41n_loops⟩ [0, 1, 5] []) (setEs (deads 72) [0, 1, 5] (n41n_jv5000015 x)) (n41n_js5000015 x) = n41n_j5000015 x (fun z => some ⟨(n41n_je5000015 z).1, (n41n_je5000015 z).2.1, (n41n_je5000015 z).2.2⟩) := by
  kernel_rfl

theorem n41n_lo5000015 : ∀ sp, (n41n_loops 5000015) = some sp → CutOk G74 ⟨1, 72, n41n_loops⟩ sp (loopBody Try.f54 5000015) := by
  intro sp hsp vals st k r h
  cases hsp
  dsimp only at h
  rcases onPats_inv2 h with ⟨p, q, rfl, rfl, h⟩ | h
  · exact cut_runs n41n_jp5000015 n41n_jv5000015 n41n_js5000015 n41n_je5000015 n41n_jx5000015 (p.2.1, p.2.2.1, q.1) _ k r (fun z => rfl) h
  cases h

def n41n_jv5000011 : (Int × Int × (List dTxn)) → List AV := (fun x => [.own 0, .int .i64 x.1, .int .i64 x.2.1])
def n41n_js5000011 : (Int × Int × (List dTxn)) → St := (fun x => [.dep tTxn x.2.2 0])
def n41n_je5000011 : (Int × Int × (List dTxn)) → Out × List AV × St := (fun z => (.norm, [.own 0, .int .i64 z.1, .int .i64 z.2.1], [.dep tTxn z.2.2 0]))

theorem n41n_jx5000011 (x : (Int × Int × (List dTxn))) : exec G74 ⟨1, 72, n41n_loops⟩ (loopBody Try.f54 5000011) (bodyK ⟨1, 72, n41n_loops⟩ [0, 1, 5] []) (setEs (deads 72) [0, 1, 5] (n41n_jv5000011 x)) (n41n_js5000011 x) = n41n_j5000011 x (fun z => some ⟨(n41n_je5000011 z).1, (n41n_je5000011 z).2.1, (n41n_je5000011 z).2.2⟩) := by
  kernel_rfl

theorem n41n_lo5000011 : ∀ sp, (n41n_loops 5000011) = some sp → CutOk G74 ⟨1, 72, n41n_loops⟩ sp (loopBody Try.f54 5000011) := by
  intro sp hsp vals st k r h
  cases hsp
  dsimp only at h
  rcases onPats_inv2 h with ⟨p, q, rfl, rfl, h⟩ | h
  · exact cut_runs n41n_jp5000011 n41n_jv5000011 n41n_js5000011 n41n_je5000011 n41n_jx5000011 (p.2.1, p.2.2.1, q.1) _ k r (fun z => rfl) h
  cases h

def n41n_jv5000009 : (Int × Int × (List dTxn)) → List AV := (fun x => [.own 0, .int .i64 x.1, .int .i64 x.2.1])
def n41n_js5000009 : (Int × Int × (List dTxn)) → St := (fun x => [.dep tTxn x.2.2 0])
def n41n_je5000009 : (Int × Int × (List dTxn)) → Out × List AV × St := (fun z => (.norm, [.own 0, .int .i64 z.1, .int .i64 z.2.1], [.dep tTxn z.2.2 0]))

theorem n41n_jx5000009 (x : (Int × Int × (List dTxn))) : exec G74 ⟨1, 72, n41n_loops⟩ (loopBody Try.f54 5000009) (bodyK ⟨1, 72, n41n_loops⟩ [0, 1, 5] []) (setEs (deads 72) [0, 1, 5] (n41n_jv5000009 x)) (n41n_js5000009 x) = n41n_j5000009 x (fun z => some ⟨(n41n_je5000009 z).1, (n41n_je5000009 z).2.1, (n41n_je5000009 z).2.2⟩) := by
  kernel_rfl

theorem n41n_lo5000009 : ∀ sp, (n41n_loops 5000009) = some sp → CutOk G74 ⟨1, 72, n41n_loops⟩ sp (loopBody Try.f54 5000009) := by
  intro sp hsp vals st k r h
  cases hsp
  dsimp only at h
  rcases onPats_inv2 h with ⟨p, q, rfl, rfl, h⟩ | h
  · exact cut_runs n41n_jp5000009 n41n_jv5000009 n41n_js5000009 n41n_je5000009 n41n_jx5000009 (p.2.1, p.2.2.1, q.1) _ k r (fun z => rfl) h
  cases h

def n41n_jv5000007 : (Int × Int × (List dTxn)) → List AV := (fun x => [.own 0, .int .i64 x.1, .int .i64 x.2.1])
def n41n_js5000007 : (Int × Int × (List dTxn)) → St := (fun x => [.dep tTxn x.2.2 0])
def n41n_je5000007 : (Int × Int × (List dTxn)) → Out × List AV × St := (fun z => (.norm, [.own 0, .int .i64 z.1, .int .i64 z.2.1], [.dep tTxn z.2.2 0]))

theorem n41n_jx5000007 (x : (Int × Int × (List dTxn))) : exec G74 ⟨1, 72, n41n_loops⟩ (loopBody Try.f54 5000007) (bodyK ⟨1, 72, n41n_loops⟩ [0, 1, 5] []) (setEs (deads 72) [0, 1, 5] (n41n_jv5000007 x)) (n41n_js5000007 x) = n41n_j5000007 x (fun z => some ⟨(n41n_je5000007 z).1, (n41n_je5000007 z).2.1, (n41n_je5000007 z).2.2⟩) := by
  kernel_rfl

theorem n41n_lo5000007 : ∀ sp, (n41n_loops 5000007) = some sp → CutOk G74 ⟨1, 72, n41n_loops⟩ sp (loopBody Try.f54 5000007) := by
  intro sp hsp vals st k r h
  cases hsp
  dsimp only at h
  rcases onPats_inv2 h with ⟨p, q, rfl, rfl, h⟩ | h
  · exact cut_runs n41n_jp5000007 n41n_jv5000007 n41n_js5000007 n41n_je5000007 n41n_jx5000007 (p.2.1, p.2.2.1, q.1) _ k r (fun z => rfl) h
  cases h

def n41n_jv5000005 : (Int × Int × (List dTxn)) → List AV := (fun x => [.own 0, .int .i64 x.1, .int .i64 x.2.1])
def n41n_js5000005 : (Int × Int × (List dTxn)) → St := (fun x => [.dep tTxn x.2.2 0])
def n41n_je5000005 : (Int × Int × (List dTxn)) → Out × List AV × St := (fun z => (.norm, [.own 0, .int .i64 z.1, .int .i64 z.2.1], [.dep tTxn z.2.2 0]))

theorem n41n_jx5000005 (x : (Int × Int × (List dTxn))) : exec G74 ⟨1, 72, n41n_loops⟩ (loopBody Try.f54 5000005) (bodyK ⟨1, 72, n41n_loops⟩ [0, 1, 5] []) (setEs (deads 72) [0, 1, 5] (n41n_jv5000005 x)) (n41n_js5000005 x) = n41n_j5000005 x (fun z => some ⟨(n41n_je5000005 z).1, (n41n_je5000005 z).2.1, (n41n_je5000005 z).2.2⟩) := by
  kernel_rfl

theorem n41n_lo5000005 : ∀ sp, (n41n_loops 5000005) = some sp → CutOk G74 ⟨1, 72, n41n_loops⟩ sp (loopBody Try.f54 5000005) := by
  intro sp hsp vals st k r h
  cases hsp
  dsimp only at h
  rcases onPats_inv2 h with ⟨p, q, rfl, rfl, h⟩ | h
  · exact cut_runs n41n_jp5000005 n41n_jv5000005 n41n_js5000005 n41n_je5000005 n41n_jx5000005 (p.2.1, p.2.2.1, q.1) _ k r (fun z => rfl) h
  cases h

def n41n_v0 : (Int × Int × (List dTxn)) → List AV := (fun x => [.own 0, .int .i64 x.1, .int .i64 x.2.1])
def n41n_s0 : (Int × Int × (List dTxn)) → St := (fun x => [.dep tTxn x.2.2 0])
def n41n_e0 : (Int × Int × (List dTxn)) → Out × List AV × St := (fun z => ((.exit 0), [.own 0, .int .i64 z.1, .int .i64 z.2.1], [.dep tTxn z.2.2 0]))

theorem n41n_bx0 (x : (Int × Int × (List dTxn))) : exec G74 ⟨1, 72, n41n_loops⟩ (loopBody Try.f54 0) (bodyK ⟨1, 72, n41n_loops⟩ [0, 1, 5] []) (setEs (deads 72) [0, 1, 5] (n41n_v0 x)) (n41n_s0 x) = n41n_b0 x (Sum.elim (fun y => some ⟨.norm, n41n_v0 y, n41n_s0 y⟩) fun z => some ⟨(n41n_e0 z).1, (n41n_e0 z).2.1, (n41n_e0 z).2.2⟩) := by
  kernel_rfl

theorem n41n_lo0 : ∀ sp, (n41n_loops 0) = some sp → LoopOk G74 ⟨1, 72, n41n_loops⟩ sp (loopBody Try.f54 0) := by
  intro sp hsp vals st k r h
  cases hsp
  dsimp only at h
  rcases onPats_inv2 h with ⟨p, q, rfl, rfl, h⟩ | h
  · exact loop_runs2 n41n_bp0 n41n_v0 n41n_s0 n41n_e0 (fun z => by (intro h; cases h)) n41n_bx0 Fuel (p.2.1, p.2.2.1, q.1) _ k r (fun z => rfl) h
  cases h

theorem n41n_y (a0 : Int) (a1 : (List dTxn)) : execFn G74 n41n_loops Try.f54 [.own 0, .int .i64 a0] [.dep tTxn a1 0] = n41n_k a0 a1 (fun (y : (Int × (List dTxn))) => some ⟨.ret, [.int .i64 y.1], [.dep tTxn y.2 0]⟩) := by rw [n41n_e]; kernel_rfl

theorem n41n_l : LoopsOk G74 ⟨1, 72, n41n_loops⟩ (Try.f54.body.getD .skip) :=
  loopsOk_of (ids := [5000003, 5000017, 5000015, 5000011, 5000009, 5000007, 5000005, 0]) (by kernel_rfl) (by kernel_rfl) ⟨n41n_lo5000003, ⟨n41n_lo5000017, ⟨n41n_lo5000015, ⟨n41n_lo5000011, ⟨n41n_lo5000009, ⟨n41n_lo5000007, ⟨n41n_lo5000005, ⟨n41n_lo0, trivial⟩⟩⟩⟩⟩⟩⟩⟩

theorem laws_markTxnS_c : Contract Try.prog 54 laws_markTxnS_g := by
  refine told G74_ok follows Try.func54 (c := Try.f54.body.getD .skip) (by kernel_rfl) ?_
  intro args s k r hk
  unfold laws_markTxnS_g at hk
  rcases onPats_inv hk with ⟨p, q, rfl, rfl⟩ | hk
  · exact ⟨n41n_loops, n41n_q p.2.1 q.1, n41n_y p.2.1 q.1, n41n_l⟩
  cases hk

def G75 : Glob := G74.add 54 laws_markTxnS_g

theorem G75_ok : GlobOk Try.prog G75 := G74_ok.add ⟨Try.f54, Try.func54, by kernel_rfl, by kernel_rfl⟩ laws_markTxnS_c



def n37n_loops : Nat → Option LoopSpec
  | _ => none

theorem n37n_y (a0 : Int) (a1 : Int) (a2 : Int) (a3 : (List dVersion)) (a4 : (List dTxn)) (a5 : (List dTxn)) : execFn G75 n37n_loops Try.f53 [.agg [.own 0, .own 1, .own 2, .int .i64 a0, .int .i64 a1], .int .i64 a2] [.arr tVersion a3, .dep tTxn a4 0, .dep tTxn a5 0] = n37n_k a0 a1 a2 a3 a4 a5 (fun (y : q32T) => some ⟨.ret, [.int .i64 y.1], [.arr tVersion y.2.1, .dep tTxn y.2.2.1 0, .dep tTxn y.2.2.2 0]⟩) := by rw [n37n_e]; kernel_rfl

theorem n37n_l : LoopsOk G75 ⟨3, 18, n37n_loops⟩ (Try.f53.body.getD .skip) :=
  loopsOk_of (ids := []) (by kernel_rfl) (by kernel_rfl) trivial

theorem laws_markBase_c : Contract Try.prog 53 laws_markBase_g := by
  refine told G75_ok follows Try.func53 (c := Try.f53.body.getD .skip) (by kernel_rfl) ?_
  intro args s k r hk
  unfold laws_markBase_g at hk
  rcases onPats_inv hk with ⟨p, q, rfl, rfl⟩ | hk
  · exact ⟨n37n_loops, n37n_q p.1.2.2.2.1 p.1.2.2.2.2.1 p.2.1 q.1 q.2.1 q.2.2.1, n37n_y p.1.2.2.2.1 p.1.2.2.2.2.1 p.2.1 q.1 q.2.1 q.2.2.1, n37n_l⟩
  cases hk

def G76 : Glob := G75.add 53 laws_markBase_g

theorem G76_ok : GlobOk Try.prog G76 := G75_ok.add ⟨Try.f53, Try.func53, by kernel_rfl, by kernel_rfl⟩ laws_markBase_c



def n38n_loops : Nat → Option LoopSpec
  | _ => none

theorem n38n_y (a0 : Int) (a1 : Int) (a2 : Int) (a3 : (List dVersion)) (a4 : (List dTxn)) (a5 : (List dTxn)) (a6 : (List dTxn)) : execFn G76 n38n_loops Try.f66 [.agg [.own 0, .own 1, .own 2, .int .i64 a0, .int .i64 a1, .own 3], .int .i64 a2] [.arr tVersion a3, .dep tTxn a4 0, .dep tTxn a5 0, .dep tTxn a6 0] = n38n_k a0 a1 a2 a3 a4 a5 a6 (fun (y : q31T) => some ⟨.ret, [.int .i64 y.1], [.arr tVersion y.2.1, .dep tTxn y.2.2.1 0, .dep tTxn y.2.2.2.1 0, .dep tTxn y.2.2.2.2 0]⟩) := by rw [n38n_e]; kernel_rfl

theorem n38n_l : LoopsOk G76 ⟨4, 14, n38n_loops⟩ (Try.f66.body.getD .skip) :=
  loopsOk_of (ids := []) (by kernel_rfl) (by kernel_rfl) trivial

theorem laws_markEngine_c : Contract Try.prog 66 laws_markEngine_g := by
  refine told G76_ok follows Try.func66 (c := Try.f66.body.getD .skip) (by kernel_rfl) ?_
  intro args s k r hk
  unfold laws_markEngine_g at hk
  rcases onPats_inv hk with ⟨p, q, rfl, rfl⟩ | hk
  · exact ⟨n38n_loops, n38n_q p.1.2.2.2.1 p.1.2.2.2.2.1 p.2.1 q.1 q.2.1 q.2.2.1 q.2.2.2.1, n38n_y p.1.2.2.2.1 p.1.2.2.2.2.1 p.2.1 q.1 q.2.1 q.2.2.1 q.2.2.2.1, n38n_l⟩
  cases hk

def G77 : Glob := G76.add 66 laws_markEngine_g

theorem G77_ok : GlobOk Try.prog G77 := G76_ok.add ⟨Try.f66, Try.func66, by kernel_rfl, by kernel_rfl⟩ laws_markEngine_c



def n35n_loops : Nat → Option LoopSpec
  | 0 => some ⟨[0, 1, 4, 5], [], fun vals st k => onPats [.lst tVersion, .int .i64, .int .i64, .int .i64] [] vals st (fun p q => loopK n35n_b0 Fuel (p.1, p.2.1, p.2.2.1, p.2.2.2.1) (Sum.elim (fun z => k .ret [.lst tVersion z.1, .int .i64 z.2.1, .int .i64 z.2.2.1, .int .i64 z.2.2.2] []) (fun z => k (.exit 0) [.lst tVersion z.1, .int .i64 z.2.1, .int .i64 z.2.2.1, .int .i64 z.2.2.2] [])))
      (none)⟩
  | 2000004 => some ⟨[0, 2, 4, 6, 8, 10, 13, 14], [], fun _ _ _ => none⟩
  | 2000007 => some ⟨[0, 2, 4, 6, 8, 10, 13, 14], [], fun _ _ _ => none⟩
  | _ => none

def n35n_v0 : q14T → List AV := (fun x => [.lst tVersion x.1, .int .i64 x.2.1, .int .i64 x.2.2.1, .int .i64 x.2.2.2])
def n35n_s0 : q14T → St := (fun x => [])
def n35n_e0 : (q14T ⊕ q14T) → Out × List AV × St := (Sum.elim (fun z => (.ret, [.lst tVersion z.1, .int .i64 z.2.1, .int .i64 z.2.2.1, .int .i64 z.2.2.2], [])) (fun z => ((.exit 0), [.lst tVersion z.1, .int .i64 z.2.1, .int .i64 z.2.2.1, .int .i64 z.2.2.2], [])))

theorem n35n_bx0 (x : q14T) : exec G77 ⟨0, 53, n35n_loops⟩ (loopBody Try.f125 0) (bodyK ⟨0, 53, n35n_loops⟩ [0, 1, 4, 5] []) (setEs (deads 53) [0, 1, 4, 5] (n35n_v0 x)) (n35n_s0 x) = n35n_b0 x (Sum.elim (fun y => some ⟨.norm, n35n_v0 y, n35n_s0 y⟩) fun z => some ⟨(n35n_e0 z).1, (n35n_e0 z).2.1, (n35n_e0 z).2.2⟩) := by
  kernel_rfl

theorem n35n_lo0 : ∀ sp, (n35n_loops 0) = some sp → LoopOk G77 ⟨0, 53, n35n_loops⟩ sp (loopBody Try.f125 0) := by
  intro sp hsp vals st k r h
  cases hsp
  dsimp only at h
  rcases onPats_inv2 h with ⟨p, q, rfl, rfl, h⟩ | h
  · exact loop_runs2 n35n_bp0 n35n_v0 n35n_s0 n35n_e0 (fun z => by rcases z with z | z <;> (intro h; cases h)) n35n_bx0 Fuel (p.1, p.2.1, p.2.2.1, p.2.2.2.1) _ k r (fun z => by rcases z with z | z <;> rfl) h
  cases h

theorem n35n_y (a0 : (List dVersion)) (a1 : Int) : execFn G77 n35n_loops Try.f125 [.lst tVersion a0, .int .i64 a1] [] = n35n_k a0 a1 (fun (y : Int) => some ⟨.ret, [.int .i64 y], []⟩) := by rw [n35n_e]; kernel_rfl

theorem n35n_l : LoopsOk G77 ⟨0, 53, n35n_loops⟩ (Try.f125.body.getD .skip) :=
  loopsOk_of (ids := [0]) (by kernel_rfl) (by kernel_rfl) ⟨n35n_lo0, trivial⟩

theorem n35n_c : Contract Try.prog 125 n35n_g := by
  refine told G77_ok follows Try.func125 (c := Try.f125.body.getD .skip) (by kernel_rfl) ?_
  intro args s k r hk
  unfold n35n_g at hk
  rcases onPats_inv hk with ⟨p, q, rfl, rfl⟩ | hk
  · exact ⟨n35n_loops, n35n_q p.1 p.2.1, n35n_y p.1 p.2.1, n35n_l⟩
  cases hk

def G78 : Glob := G77.add 125 n35n_g

theorem G78_ok : GlobOk Try.prog G78 := G77_ok.add ⟨Try.f125, Try.func125, by kernel_rfl, by kernel_rfl⟩ n35n_c



def n33n_loops : Nat → Option LoopSpec
  | 0 => some ⟨[0, 1, 4, 5], [], fun vals st k => onPats [.lst tRange, .int .i64, .int .i64, .int .i64] [] vals st (fun p q => loopK n33n_b0 Fuel (p.1, p.2.1, p.2.2.1, p.2.2.2.1) (Sum.elim (fun z => k .ret [.lst tRange z.1, .int .i64 z.2.1, .int .i64 z.2.2.1, .int .i64 z.2.2.2] []) (fun z => k (.exit 0) [.lst tRange z.1, .int .i64 z.2.1, .int .i64 z.2.2.1, .int .i64 z.2.2.2] [])))
      (none)⟩
  | 2000004 => some ⟨[0, 2, 4, 6, 8, 10, 13, 14], [], fun _ _ _ => none⟩
  | 2000007 => some ⟨[0, 2, 4, 6, 8, 10, 13, 14], [], fun _ _ _ => none⟩
  | _ => none

def n33n_v0 : q3T → List AV := (fun x => [.lst tRange x.1, .int .i64 x.2.1, .int .i64 x.2.2.1, .int .i64 x.2.2.2])
def n33n_s0 : q3T → St := (fun x => [])
def n33n_e0 : (q3T ⊕ q3T) → Out × List AV × St := (Sum.elim (fun z => (.ret, [.lst tRange z.1, .int .i64 z.2.1, .int .i64 z.2.2.1, .int .i64 z.2.2.2], [])) (fun z => ((.exit 0), [.lst tRange z.1, .int .i64 z.2.1, .int .i64 z.2.2.1, .int .i64 z.2.2.2], [])))

theorem n33n_bx0 (x : q3T) : exec G78 ⟨0, 33, n33n_loops⟩ (loopBody Try.f199 0) (bodyK ⟨0, 33, n33n_loops⟩ [0, 1, 4, 5] []) (setEs (deads 33) [0, 1, 4, 5] (n33n_v0 x)) (n33n_s0 x) = n33n_b0 x (Sum.elim (fun y => some ⟨.norm, n33n_v0 y, n33n_s0 y⟩) fun z => some ⟨(n33n_e0 z).1, (n33n_e0 z).2.1, (n33n_e0 z).2.2⟩) := by
  kernel_rfl

theorem n33n_lo0 : ∀ sp, (n33n_loops 0) = some sp → LoopOk G78 ⟨0, 33, n33n_loops⟩ sp (loopBody Try.f199 0) := by
  intro sp hsp vals st k r h
  cases hsp
  dsimp only at h
  rcases onPats_inv2 h with ⟨p, q, rfl, rfl, h⟩ | h
  · exact loop_runs2 n33n_bp0 n33n_v0 n33n_s0 n33n_e0 (fun z => by rcases z with z | z <;> (intro h; cases h)) n33n_bx0 Fuel (p.1, p.2.1, p.2.2.1, p.2.2.2.1) _ k r (fun z => by rcases z with z | z <;> rfl) h
  cases h

theorem n33n_y (a0 : (List dRange)) (a1 : Int) : execFn G78 n33n_loops Try.f199 [.lst tRange a0, .int .i64 a1] [] = n33n_k a0 a1 (fun (y : Int) => some ⟨.ret, [.int .i64 y], []⟩) := by rw [n33n_e]; kernel_rfl

theorem n33n_l : LoopsOk G78 ⟨0, 33, n33n_loops⟩ (Try.f199.body.getD .skip) :=
  loopsOk_of (ids := [0]) (by kernel_rfl) (by kernel_rfl) ⟨n33n_lo0, trivial⟩

theorem n33n_c : Contract Try.prog 199 n33n_g := by
  refine told G78_ok follows Try.func199 (c := Try.f199.body.getD .skip) (by kernel_rfl) ?_
  intro args s k r hk
  unfold n33n_g at hk
  rcases onPats_inv hk with ⟨p, q, rfl, rfl⟩ | hk
  · exact ⟨n33n_loops, n33n_q p.1 p.2.1, n33n_y p.1 p.2.1, n33n_l⟩
  cases hk

def G79 : Glob := G78.add 199 n33n_g

theorem G79_ok : GlobOk Try.prog G79 := G78_ok.add ⟨Try.f199, Try.func199, by kernel_rfl, by kernel_rfl⟩ n33n_c



def n36n_loops : Nat → Option LoopSpec
  | 0 => some ⟨[0, 1, 4, 5], [], fun vals st k => onPats [.lst tWrite, .int .i64, .int .i64, .int .i64] [] vals st (fun p q => loopK n36n_b0 Fuel (p.1, p.2.1, p.2.2.1, p.2.2.2.1) (Sum.elim (fun z => k .ret [.lst tWrite z.1, .int .i64 z.2.1, .int .i64 z.2.2.1, .int .i64 z.2.2.2] []) (fun z => k (.exit 0) [.lst tWrite z.1, .int .i64 z.2.1, .int .i64 z.2.2.1, .int .i64 z.2.2.2] [])))
      (none)⟩
  | 2000004 => some ⟨[0, 2, 4, 6, 8, 10, 13, 14], [], fun _ _ _ => none⟩
  | 2000007 => some ⟨[0, 2, 4, 6, 8, 10, 13, 14], [], fun _ _ _ => none⟩
  | _ => none

def n36n_v0 : q19T → List AV := (fun x => [.lst tWrite x.1, .int .i64 x.2.1, .int .i64 x.2.2.1, .int .i64 x.2.2.2])
def n36n_s0 : q19T → St := (fun x => [])
def n36n_e0 : (q19T ⊕ q19T) → Out × List AV × St := (Sum.elim (fun z => (.ret, [.lst tWrite z.1, .int .i64 z.2.1, .int .i64 z.2.2.1, .int .i64 z.2.2.2], [])) (fun z => ((.exit 0), [.lst tWrite z.1, .int .i64 z.2.1, .int .i64 z.2.2.1, .int .i64 z.2.2.2], [])))

theorem n36n_bx0 (x : q19T) : exec G79 ⟨0, 44, n36n_loops⟩ (loopBody Try.f200 0) (bodyK ⟨0, 44, n36n_loops⟩ [0, 1, 4, 5] []) (setEs (deads 44) [0, 1, 4, 5] (n36n_v0 x)) (n36n_s0 x) = n36n_b0 x (Sum.elim (fun y => some ⟨.norm, n36n_v0 y, n36n_s0 y⟩) fun z => some ⟨(n36n_e0 z).1, (n36n_e0 z).2.1, (n36n_e0 z).2.2⟩) := by
  kernel_rfl

theorem n36n_lo0 : ∀ sp, (n36n_loops 0) = some sp → LoopOk G79 ⟨0, 44, n36n_loops⟩ sp (loopBody Try.f200 0) := by
  intro sp hsp vals st k r h
  cases hsp
  dsimp only at h
  rcases onPats_inv2 h with ⟨p, q, rfl, rfl, h⟩ | h
  · exact loop_runs2 n36n_bp0 n36n_v0 n36n_s0 n36n_e0 (fun z => by rcases z with z | z <;> (intro h; cases h)) n36n_bx0 Fuel (p.1, p.2.1, p.2.2.1, p.2.2.2.1) _ k r (fun z => by rcases z with z | z <;> rfl) h
  cases h

theorem n36n_y (a0 : (List dWrite)) (a1 : Int) : execFn G79 n36n_loops Try.f200 [.lst tWrite a0, .int .i64 a1] [] = n36n_k a0 a1 (fun (y : Int) => some ⟨.ret, [.int .i64 y], []⟩) := by rw [n36n_e]; kernel_rfl

theorem n36n_l : LoopsOk G79 ⟨0, 44, n36n_loops⟩ (Try.f200.body.getD .skip) :=
  loopsOk_of (ids := [0]) (by kernel_rfl) (by kernel_rfl) ⟨n36n_lo0, trivial⟩

theorem n36n_c : Contract Try.prog 200 n36n_g := by
  refine told G79_ok follows Try.func200 (c := Try.f200.body.getD .skip) (by kernel_rfl) ?_
  intro args s k r hk
  unfold n36n_g at hk
  rcases onPats_inv hk with ⟨p, q, rfl, rfl⟩ | hk
  · exact ⟨n36n_loops, n36n_q p.1 p.2.1, n36n_y p.1 p.2.1, n36n_l⟩
  cases hk

def G80 : Glob := G79.add 200 n36n_g

theorem G80_ok : GlobOk Try.prog G80 := G79_ok.add ⟨Try.f200, Try.func200, by kernel_rfl, by kernel_rfl⟩ n36n_c



def n34n_loops : Nat → Option LoopSpec
  | 0 => some ⟨[0, 1, 4, 5], [], fun vals st k => onPats [.lst tTxn, .int .i64, .int .i64, .int .i64] [] vals st (fun p q => loopK n34n_b0 Fuel (p.1, p.2.1, p.2.2.1, p.2.2.2.1) (Sum.elim (fun z => k .ret [.lst tTxn z.1, .int .i64 z.2.1, .int .i64 z.2.2.1, .int .i64 z.2.2.2] []) (fun z => k (.exit 0) [.lst tTxn z.1, .int .i64 z.2.1, .int .i64 z.2.2.1, .int .i64 z.2.2.2] [])))
      (none)⟩
  | 2000025 => some ⟨[0, 2, 4, 6, 8, 10, 13, 14], [], fun _ _ _ => none⟩
  | _ => none

def n34n_v0 : q8T → List AV := (fun x => [.lst tTxn x.1, .int .i64 x.2.1, .int .i64 x.2.2.1, .int .i64 x.2.2.2])
def n34n_s0 : q8T → St := (fun x => [])
def n34n_e0 : (q8T ⊕ q8T) → Out × List AV × St := (Sum.elim (fun z => (.ret, [.lst tTxn z.1, .int .i64 z.2.1, .int .i64 z.2.2.1, .int .i64 z.2.2.2], [])) (fun z => ((.exit 0), [.lst tTxn z.1, .int .i64 z.2.1, .int .i64 z.2.2.1, .int .i64 z.2.2.2], [])))

theorem n34n_bx0 (x : q8T) : exec G80 ⟨0, 88, n34n_loops⟩ (loopBody Try.f126 0) (bodyK ⟨0, 88, n34n_loops⟩ [0, 1, 4, 5] []) (setEs (deads 88) [0, 1, 4, 5] (n34n_v0 x)) (n34n_s0 x) = n34n_b0 x (Sum.elim (fun y => some ⟨.norm, n34n_v0 y, n34n_s0 y⟩) fun z => some ⟨(n34n_e0 z).1, (n34n_e0 z).2.1, (n34n_e0 z).2.2⟩) := by
  kernel_rfl

theorem n34n_lo0 : ∀ sp, (n34n_loops 0) = some sp → LoopOk G80 ⟨0, 88, n34n_loops⟩ sp (loopBody Try.f126 0) := by
  intro sp hsp vals st k r h
  cases hsp
  dsimp only at h
  rcases onPats_inv2 h with ⟨p, q, rfl, rfl, h⟩ | h
  · exact loop_runs2 n34n_bp0 n34n_v0 n34n_s0 n34n_e0 (fun z => by rcases z with z | z <;> (intro h; cases h)) n34n_bx0 Fuel (p.1, p.2.1, p.2.2.1, p.2.2.2.1) _ k r (fun z => by rcases z with z | z <;> rfl) h
  cases h

theorem n34n_y (a0 : (List dTxn)) (a1 : Int) : execFn G80 n34n_loops Try.f126 [.lst tTxn a0, .int .i64 a1] [] = n34n_k a0 a1 (fun (y : Int) => some ⟨.ret, [.int .i64 y], []⟩) := by rw [n34n_e]; kernel_rfl

theorem n34n_l : LoopsOk G80 ⟨0, 88, n34n_loops⟩ (Try.f126.body.getD .skip) :=
  loopsOk_of (ids := [0]) (by kernel_rfl) (by kernel_rfl) ⟨n34n_lo0, trivial⟩

theorem n34n_c : Contract Try.prog 126 n34n_g := by
  refine told G80_ok follows Try.func126 (c := Try.f126.body.getD .skip) (by kernel_rfl) ?_
  intro args s k r hk
  unfold n34n_g at hk
  rcases onPats_inv hk with ⟨p, q, rfl, rfl⟩ | hk
  · exact ⟨n34n_loops, n34n_q p.1 p.2.1, n34n_y p.1 p.2.1, n34n_l⟩
  cases hk

def G81 : Glob := G80.add 126 n34n_g

theorem G81_ok : GlobOk Try.prog G81 := G80_ok.add ⟨Try.f126, Try.func126, by kernel_rfl, by kernel_rfl⟩ n34n_c



def n31n_loops : Nat → Option LoopSpec
  | _ => none

theorem n31n_y (a0 : (List dVersion)) (a1 : (List dTxn)) (a2 : (List dTxn)) (a3 : Int) (a4 : Int) (a5 : Int) : execFn G81 n31n_loops Try.f55 [.agg [.lst tVersion a0, .lst tTxn a1, .lst tTxn a2, .int .i64 a3, .int .i64 a4], .int .i64 a5] [] = n31n_k (a0, (a1, (a2, (a3, a4)))) a5 (fun (y : Int) => some ⟨.ret, [.int .i64 y], []⟩) := by rw [n31n_e]; kernel_rfl

theorem n31n_l : LoopsOk G81 ⟨0, 24, n31n_loops⟩ (Try.f55.body.getD .skip) :=
  loopsOk_of (ids := []) (by kernel_rfl) (by kernel_rfl) trivial

theorem n31n_c : Contract Try.prog 55 n31n_g := by
  refine told G81_ok follows Try.func55 (c := Try.f55.body.getD .skip) (by kernel_rfl) ?_
  intro args s k r hk
  unfold n31n_g at hk
  rcases onPats_inv hk with ⟨p, q, rfl, rfl⟩ | hk
  · exact ⟨n31n_loops, n31n_q p.1.1 p.1.2.1 p.1.2.2.1 p.1.2.2.2.1 p.1.2.2.2.2.1 p.2.1, n31n_y p.1.1 p.1.2.1 p.1.2.2.1 p.1.2.2.2.1 p.1.2.2.2.2.1 p.2.1, n31n_l⟩
  cases hk

def G82 : Glob := G81.add 55 n31n_g

theorem G82_ok : GlobOk Try.prog G82 := G81_ok.add ⟨Try.f55, Try.func55, by kernel_rfl, by kernel_rfl⟩ n31n_c



def n32n_loops : Nat → Option LoopSpec
  | _ => none

theorem n32n_y (a0 : (List dVersion)) (a1 : (List dTxn)) (a2 : (List dTxn)) (a3 : Int) (a4 : Int) (a5 : (List dTxn)) (a6 : Int) : execFn G82 n32n_loops Try.f67 [.agg [.lst tVersion a0, .lst tTxn a1, .lst tTxn a2, .int .i64 a3, .int .i64 a4, .lst tTxn a5], .int .i64 a6] [] = n32n_k ((a0, (a1, (a2, (a3, a4)))), a5) a6 (fun (y : Int) => some ⟨.ret, [.int .i64 y], []⟩) := by rw [n32n_e]; kernel_rfl

theorem n32n_l : LoopsOk G82 ⟨0, 18, n32n_loops⟩ (Try.f67.body.getD .skip) :=
  loopsOk_of (ids := []) (by kernel_rfl) (by kernel_rfl) trivial

theorem n32n_c : Contract Try.prog 67 n32n_g := by
  refine told G82_ok follows Try.func67 (c := Try.f67.body.getD .skip) (by kernel_rfl) ?_
  intro args s k r hk
  unfold n32n_g at hk
  rcases onPats_inv hk with ⟨p, q, rfl, rfl⟩ | hk
  · exact ⟨n32n_loops, n32n_q p.1.1 p.1.2.1 p.1.2.2.1 p.1.2.2.2.1 p.1.2.2.2.2.1 p.1.2.2.2.2.2.1 p.2.1, n32n_y p.1.1 p.1.2.1 p.1.2.2.1 p.1.2.2.2.1 p.1.2.2.2.2.1 p.1.2.2.2.2.2.1 p.2.1, n32n_l⟩
  cases hk

def G83 : Glob := G82.add 67 n32n_g

theorem G83_ok : GlobOk Try.prog G83 := G82_ok.add ⟨Try.f67, Try.func67, by kernel_rfl, by kernel_rfl⟩ n32n_c



def n20n_loops : Nat → Option LoopSpec
  | 5000029 => some ⟨[6, 13, 18], [], fun vals st k => onPats [.bool, .bp 0 0, .int .i64] [.box [.own 1, .own 2, .own 3, .int .i64, .int .i64, .own 4], .arr tVersion, .dep tTxn 0, .dep tTxn 0, .dep tTxn 0] vals st (fun p q => n20n_j5000029 (p.1, p.2.2.1, q.1.2.2.2.1, q.1.2.2.2.2.1, q.2.1, q.2.2.1, q.2.2.2.1, q.2.2.2.2.1) (fun z => k .ret [.bool z.1, .bp 0 0, .int .i64 z.2.1] [.box [.own 1, .own 2, .own 3, .int .i64 z.2.2.1, .int .i64 z.2.2.2.1, .own 4], .arr tVersion z.2.2.2.2.1, .dep tTxn z.2.2.2.2.2.1 0, .dep tTxn z.2.2.2.2.2.2.1 0, .dep tTxn z.2.2.2.2.2.2.2 0]))
      (none)⟩
  | 5000018 => some ⟨[1, 2, 3, 6, 8, 9, 10, 11, 13], [], fun vals st k => onPats [.int .i64, .str, .bp 0 0, .bool, .bp 1 0, .str, .bool, .int .i64, .bp 2 0] [.box [.lst tVersion, .lst tTxn, .lst tTxn, .int .i64, .int .i64, .lst tTxn], .box [.own 3, .own 4, .own 5, .int .i64, .int .i64, .own 6], .box [.own 7, .own 8, .own 9, .int .i64, .int .i64, .own 10], .arr tVersion, .arr tTxn, .arr tTxn, .arr tTxn, .arr tVersion, .dep tTxn 0, .dep tTxn 0, .dep tTxn 0] vals st (fun p q => n20n_j5000018 (p.1, p.2.1, p.2.2.2.1, p.2.2.2.2.2.1, p.2.2.2.2.2.2.1, p.2.2.2.2.2.2.2.1, q.1.1, q.1.2.1, q.1.2.2.1, q.1.2.2.2.1, q.1.2.2.2.2.1, q.1.2.2.2.2.2.1, q.2.1.2.2.2.1, q.2.1.2.2.2.2.1, q.2.2.1.2.2.2.1, q.2.2.1.2.2.2.2.1, q.2.2.2.1, q.2.2.2.2.1, q.2.2.2.2.2.1, q.2.2.2.2.2.2.1, q.2.2.2.2.2.2.2.1, q.2.2.2.2.2.2.2.2.1, q.2.2.2.2.2.2.2.2.2.1, q.2.2.2.2.2.2.2.2.2.2.1) (Sum.elim (fun z => k .ret [.int .i64 z.1, .str z.2.1, .bp 0 0, .bool z.2.2.1, .bp 1 0, .str z.2.2.2.1, .bool z.2.2.2.2.1, .int .i64 z.2.2.2.2.2.1, .bp 2 0] [.box [.lst tVersion z.2.2.2.2.2.2.1, .lst tTxn z.2.2.2.2.2.2.2.1, .lst tTxn z.2.2.2.2.2.2.2.2.1, .int .i64 z.2.2.2.2.2.2.2.2.2.1, .int .i64 z.2.2.2.2.2.2.2.2.2.2.1, .lst tTxn z.2.2.2.2.2.2.2.2.2.2.2.1], .box [.own 3, .own 4, .own 5, .int .i64 z.2.2.2.2.2.2.2.2.2.2.2.2.1, .int .i64 z.2.2.2.2.2.2.2.2.2.2.2.2.2.1, .own 6], .box [.own 7, .own 8, .own 9, .int .i64 z.2.2.2.2.2.2.2.2.2.2.2.2.2.2.1, .int .i64 z.2.2.2.2.2.2.2.2.2.2.2.2.2.2.2.1, .own 10], .arr tVersion z.2.2.2.2.2.2.2.2.2.2.2.2.2.2.2.2.1, .arr tTxn z.2.2.2.2.2.2.2.2.2.2.2.2.2.2.2.2.2.1, .arr tTxn z.2.2.2.2.2.2.2.2.2.2.2.2.2.2.2.2.2.2.1, .arr tTxn z.2.2.2.2.2.2.2.2.2.2.2.2.2.2.2.2.2.2.2.1, .arr tVersion z.2.2.2.2.2.2.2.2.2.2.2.2.2.2.2.2.2.2.2.2.1, .dep tTxn z.2.2.2.2.2.2.2.2.2.2.2.2.2.2.2.2.2.2.2.2.2.1 0, .dep tTxn z.2.2.2.2.2.2.2.2.2.2.2.2.2.2.2.2.2.2.2.2.2.2.1 0, .dep tTxn z.2.2.2.2.2.2.2.2.2.2.2.2.2.2.2.2.2.2.2.2.2.2.2 0]) (fun z => k .ret [.dead, .dead, .dead, .bool z.1, .dead, .dead, .dead, .dead, .bp 0 0] [.box [.own 1, .own 2, .own 3, .int .i64 z.2.1, .int .i64 z.2.2.1, .own 4], .arr tVersion z.2.2.2.1, .dep tTxn z.2.2.2.2.1 0, .dep tTxn z.2.2.2.2.2.1 0, .dep tTxn z.2.2.2.2.2.2 0])))
      (none)⟩
  | 5000012 => some ⟨[1, 2, 3, 6, 8, 9, 10, 11, 12, 13, 14, 15, 16], [], fun vals st k => onPats [.int .i64, .str, .bp 0 0, .bool, .bp 1 0, .str, .bool, .int .i64, .bp 2 0, .bp 3 0, .str, .bool, .int .i64] [.box [.lst tVersion, .lst tTxn, .lst tTxn, .int .i64, .int .i64, .lst tTxn], .box [.own 4, .own 5, .own 6, .int .i64, .int .i64, .own 7], .box [.own 8, .own 9, .own 10, .int .i64, .int .i64, .own 11], .box [.own 12, .own 13, .own 14, .int .i64, .int .i64, .own 15], .arr tVersion, .arr tTxn, .arr tTxn, .arr tTxn, .arr tVersion, .dep tTxn 0, .dep tTxn 0, .dep tTxn 0, .arr tVersion, .dep tTxn 0, .dep tTxn 0, .dep tTxn 0] vals st (fun p q => n20n_j5000012 (p.1, p.2.1, p.2.2.2.1, p.2.2.2.2.2.1, p.2.2.2.2.2.2.1, p.2.2.2.2.2.2.2.1, p.2.2.2.2.2.2.2.2.2.2.1, p.2.2.2.2.2.2.2.2.2.2.2.1, p.2.2.2.2.2.2.2.2.2.2.2.2.1, q.1.1, q.1.2.1, q.1.2.2.1, q.1.2.2.2.1, q.1.2.2.2.2.1, q.1.2.2.2.2.2.1, q.2.1.2.2.2.1, q.2.1.2.2.2.2.1, q.2.2.1.2.2.2.1, q.2.2.1.2.2.2.2.1, q.2.2.2.1.2.2.2.1, q.2.2.2.1.2.2.2.2.1, q.2.2.2.2.1, q.2.2.2.2.2.1, q.2.2.2.2.2.2.1, q.2.2.2.2.2.2.2.1, q.2.2.2.2.2.2.2.2.1, q.2.2.2.2.2.2.2.2.2.1, q.2.2.2.2.2.2.2.2.2.2.1, q.2.2.2.2.2.2.2.2.2.2.2.1, q.2.2.2.2.2.2.2.2.2.2.2.2.1, q.2.2.2.2.2.2.2.2.2.2.2.2.2.1, q.2.2.2.2.2.2.2.2.2.2.2.2.2.2.1, q.2.2.2.2.2.2.2.2.2.2.2.2.2.2.2.1) (Sum.elim (fun z => k .ret [.int .i64 z.1, .str z.2.1, .bp 0 0, .bool z.2.2.1, .bp 1 0, .str z.2.2.2.1, .bool z.2.2.2.2.1, .int .i64 z.2.2.2.2.2.1, .bp 2 0, .bp 3 0, .str z.2.2.2.2.2.2.1, .bool z.2.2.2.2.2.2.2.1, .int .i64 z.2.2.2.2.2.2.2.2.1] [.box [.lst tVersion z.2.2.2.2.2.2.2.2.2.1, .lst tTxn z.2.2.2.2.2.2.2.2.2.2.1, .lst tTxn z.2.2.2.2.2.2.2.2.2.2.2.1, .int .i64 z.2.2.2.2.2.2.2.2.2.2.2.2.1, .int .i64 z.2.2.2.2.2.2.2.2.2.2.2.2.2.1, .lst tTxn z.2.2.2.2.2.2.2.2.2.2.2.2.2.2.1], .box [.own 4, .own 5, .own 6, .int .i64 z.2.2.2.2.2.2.2.2.2.2.2.2.2.2.2.1, .int .i64 z.2.2.2.2.2.2.2.2.2.2.2.2.2.2.2.2.1, .own 7], .box [.own 8, .own 9, .own 10, .int .i64 z.2.2.2.2.2.2.2.2.2.2.2.2.2.2.2.2.2.1, .int .i64 z.2.2.2.2.2.2.2.2.2.2.2.2.2.2.2.2.2.2.1, .own 11], .box [.own 12, .own 13, .own 14, .int .i64 z.2.2.2.2.2.2.2.2.2.2.2.2.2.2.2.2.2.2.2.1, .int .i64 z.2.2.2.2.2.2.2.2.2.2.2.2.2.2.2.2.2.2.2.2.1, .own 15], .arr tVersion z.2.2.2.2.2.2.2.2.2.2.2.2.2.2.2.2.2.2.2.2.2.1, .arr tTxn z.2.2.2.2.2.2.2.2.2.2.2.2.2.2.2.2.2.2.2.2.2.2.1, .arr tTxn z.2.2.2.2.2.2.2.2.2.2.2.2.2.2.2.2.2.2.2.2.2.2.2.1, .arr tTxn z.2.2.2.2.2.2.2.2.2.2.2.2.2.2.2.2.2.2.2.2.2.2.2.2.1, .arr tVersion z.2.2.2.2.2.2.2.2.2.2.2.2.2.2.2.2.2.2.2.2.2.2.2.2.2.1, .dep tTxn z.2.2.2.2.2.2.2.2.2.2.2.2.2.2.2.2.2.2.2.2.2.2.2.2.2.2.1 0, .dep tTxn z.2.2.2.2.2.2.2.2.2.2.2.2.2.2.2.2.2.2.2.2.2.2.2.2.2.2.2.1 0, .dep tTxn z.2.2.2.2.2.2.2.2.2.2.2.2.2.2.2.2.2.2.2.2.2.2.2.2.2.2.2.2.1 0, .arr tVersion z.2.2.2.2.2.2.2.2.2.2.2.2.2.2.2.2.2.2.2.2.2.2.2.2.2.2.2.2.2.1, .dep tTxn z.2.2.2.2.2.2.2.2.2.2.2.2.2.2.2.2.2.2.2.2.2.2.2.2.2.2.2.2.2.2.1 0, .dep tTxn z.2.2.2.2.2.2.2.2.2.2.2.2.2.2.2.2.2.2.2.2.2.2.2.2.2.2.2.2.2.2.2.1 0, .dep tTxn z.2.2.2.2.2.2.2.2.2.2.2.2.2.2.2.2.2.2.2.2.2.2.2.2.2.2.2.2.2.2.2.2 0]) (Sum.elim (fun z => k .ret [.int .i64 z.1, .str z.2.1, .bp 0 0, .bool z.2.2.1, .bp 1 0, .str z.2.2.2.1, .bool z.2.2.2.2.1, .int .i64 z.2.2.2.2.2.1, .dead, .bp 2 0, .dead, .dead, .dead] [.box [.lst tVersion z.2.2.2.2.2.2.1, .lst tTxn z.2.2.2.2.2.2.2.1, .lst tTxn z.2.2.2.2.2.2.2.2.1, .int .i64 z.2.2.2.2.2.2.2.2.2.1, .int .i64 z.2.2.2.2.2.2.2.2.2.2.1, .lst tTxn z.2.2.2.2.2.2.2.2.2.2.2.1], .box [.own 3, .own 4, .own 5, .int .i64 z.2.2.2.2.2.2.2.2.2.2.2.2.1, .int .i64 z.2.2.2.2.2.2.2.2.2.2.2.2.2.1, .own 6], .box [.own 7, .own 8, .own 9, .int .i64 z.2.2.2.2.2.2.2.2.2.2.2.2.2.2.1, .int .i64 z.2.2.2.2.2.2.2.2.2.2.2.2.2.2.2.1, .own 10], .arr tVersion z.2.2.2.2.2.2.2.2.2.2.2.2.2.2.2.2.1, .arr tTxn z.2.2.2.2.2.2.2.2.2.2.2.2.2.2.2.2.2.1, .arr tTxn z.2.2.2.2.2.2.2.2.2.2.2.2.2.2.2.2.2.2.1, .arr tTxn z.2.2.2.2.2.2.2.2.2.2.2.2.2.2.2.2.2.2.2.1, .arr tVersion z.2.2.2.2.2.2.2.2.2.2.2.2.2.2.2.2.2.2.2.2.1, .dep tTxn z.2.2.2.2.2.2.2.2.2.2.2.2.2.2.2.2.2.2.2.2.2.1 0, .dep tTxn z.2.2.2.2.2.2.2.2.2.2.2.2.2.2.2.2.2.2.2.2.2.2.1 0, .dep tTxn z.2.2.2.2.2.2.2.2.2.2.2.2.2.2.2.2.2.2.2.2.2.2.2 0]) (fun z => k .ret [.dead, .dead, .dead, .bool z.1, .dead, .dead, .dead, .dead, .dead, .bp 0 0, .dead, .dead, .dead] [.box [.own 1, .own 2, .own 3, .int .i64 z.2.1, .int .i64 z.2.2.1, .own 4], .arr tVersion z.2.2.2.1, .dep tTxn z.2.2.2.2.1 0, .dep tTxn z.2.2.2.2.2.1 0, .dep tTxn z.2.2.2.2.2.2 0]))))
      (none)⟩
  | _ => none

def n20n_jv5000029 : q23T → List AV := (fun x => [.bool x.1, .bp 0 0, .int .i64 x.2.1])
def n20n_js5000029 : q23T → St := (fun x => [.box [.own 1, .own 2, .own 3, .int .i64 x.2.2.1, .int .i64 x.2.2.2.1, .own 4], .arr tVersion x.2.2.2.2.1, .dep tTxn x.2.2.2.2.2.1 0, .dep tTxn x.2.2.2.2.2.2.1 0, .dep tTxn x.2.2.2.2.2.2.2 0])
def n20n_je5000029 : q23T → Out × List AV × St := (fun z => (.ret, [.bool z.1, .bp 0 0, .int .i64 z.2.1], [.box [.own 1, .own 2, .own 3, .int .i64 z.2.2.1, .int .i64 z.2.2.2.1, .own 4], .arr tVersion z.2.2.2.2.1, .dep tTxn z.2.2.2.2.2.1 0, .dep tTxn z.2.2.2.2.2.2.1 0, .dep tTxn z.2.2.2.2.2.2.2 0]))

theorem n20n_jx5000029 (x : q23T) : exec G83 ⟨0, 151, n20n_loops⟩ (loopBody Try.f13 5000029) (bodyK ⟨0, 151, n20n_loops⟩ [6, 13, 18] []) (setEs (deads 151) [6, 13, 18] (n20n_jv5000029 x)) (n20n_js5000029 x) = n20n_j5000029 x (fun z => some ⟨(n20n_je5000029 z).1, (n20n_je5000029 z).2.1, (n20n_je5000029 z).2.2⟩) := by
  kernel_rfl

theorem n20n_lo5000029 : ∀ sp, (n20n_loops 5000029) = some sp → CutOk G83 ⟨0, 151, n20n_loops⟩ sp (loopBody Try.f13 5000029) := by
  intro sp hsp vals st k r h
  cases hsp
  dsimp only at h
  rcases onPats_inv2 h with ⟨p, q, rfl, rfl, h⟩ | h
  · exact cut_runs n20n_jp5000029 n20n_jv5000029 n20n_js5000029 n20n_je5000029 n20n_jx5000029 (p.1, p.2.2.1, q.1.2.2.2.1, q.1.2.2.2.2.1, q.2.1, q.2.2.1, q.2.2.2.1, q.2.2.2.2.1) _ k r (fun z => rfl) h
  cases h

def n20n_jv5000018 : q33T → List AV := (fun x => [.int .i64 x.1, .str x.2.1, .bp 0 0, .bool x.2.2.1, .bp 1 0, .str x.2.2.2.1, .bool x.2.2.2.2.1, .int .i64 x.2.2.2.2.2.1, .bp 2 0])
def n20n_js5000018 : q33T → St := (fun x => [.box [.lst tVersion x.2.2.2.2.2.2.1, .lst tTxn x.2.2.2.2.2.2.2.1, .lst tTxn x.2.2.2.2.2.2.2.2.1, .int .i64 x.2.2.2.2.2.2.2.2.2.1, .int .i64 x.2.2.2.2.2.2.2.2.2.2.1, .lst tTxn x.2.2.2.2.2.2.2.2.2.2.2.1], .box [.own 3, .own 4, .own 5, .int .i64 x.2.2.2.2.2.2.2.2.2.2.2.2.1, .int .i64 x.2.2.2.2.2.2.2.2.2.2.2.2.2.1, .own 6], .box [.own 7, .own 8, .own 9, .int .i64 x.2.2.2.2.2.2.2.2.2.2.2.2.2.2.1, .int .i64 x.2.2.2.2.2.2.2.2.2.2.2.2.2.2.2.1, .own 10], .arr tVersion x.2.2.2.2.2.2.2.2.2.2.2.2.2.2.2.2.1, .arr tTxn x.2.2.2.2.2.2.2.2.2.2.2.2.2.2.2.2.2.1, .arr tTxn x.2.2.2.2.2.2.2.2.2.2.2.2.2.2.2.2.2.2.1, .arr tTxn x.2.2.2.2.2.2.2.2.2.2.2.2.2.2.2.2.2.2.2.1, .arr tVersion x.2.2.2.2.2.2.2.2.2.2.2.2.2.2.2.2.2.2.2.2.1, .dep tTxn x.2.2.2.2.2.2.2.2.2.2.2.2.2.2.2.2.2.2.2.2.2.1 0, .dep tTxn x.2.2.2.2.2.2.2.2.2.2.2.2.2.2.2.2.2.2.2.2.2.2.1 0, .dep tTxn x.2.2.2.2.2.2.2.2.2.2.2.2.2.2.2.2.2.2.2.2.2.2.2 0])
def n20n_je5000018 : (q33T ⊕ q22T) → Out × List AV × St := (Sum.elim (fun z => (.ret, [.int .i64 z.1, .str z.2.1, .bp 0 0, .bool z.2.2.1, .bp 1 0, .str z.2.2.2.1, .bool z.2.2.2.2.1, .int .i64 z.2.2.2.2.2.1, .bp 2 0], [.box [.lst tVersion z.2.2.2.2.2.2.1, .lst tTxn z.2.2.2.2.2.2.2.1, .lst tTxn z.2.2.2.2.2.2.2.2.1, .int .i64 z.2.2.2.2.2.2.2.2.2.1, .int .i64 z.2.2.2.2.2.2.2.2.2.2.1, .lst tTxn z.2.2.2.2.2.2.2.2.2.2.2.1], .box [.own 3, .own 4, .own 5, .int .i64 z.2.2.2.2.2.2.2.2.2.2.2.2.1, .int .i64 z.2.2.2.2.2.2.2.2.2.2.2.2.2.1, .own 6], .box [.own 7, .own 8, .own 9, .int .i64 z.2.2.2.2.2.2.2.2.2.2.2.2.2.2.1, .int .i64 z.2.2.2.2.2.2.2.2.2.2.2.2.2.2.2.1, .own 10], .arr tVersion z.2.2.2.2.2.2.2.2.2.2.2.2.2.2.2.2.1, .arr tTxn z.2.2.2.2.2.2.2.2.2.2.2.2.2.2.2.2.2.1, .arr tTxn z.2.2.2.2.2.2.2.2.2.2.2.2.2.2.2.2.2.2.1, .arr tTxn z.2.2.2.2.2.2.2.2.2.2.2.2.2.2.2.2.2.2.2.1, .arr tVersion z.2.2.2.2.2.2.2.2.2.2.2.2.2.2.2.2.2.2.2.2.1, .dep tTxn z.2.2.2.2.2.2.2.2.2.2.2.2.2.2.2.2.2.2.2.2.2.1 0, .dep tTxn z.2.2.2.2.2.2.2.2.2.2.2.2.2.2.2.2.2.2.2.2.2.2.1 0, .dep tTxn z.2.2.2.2.2.2.2.2.2.2.2.2.2.2.2.2.2.2.2.2.2.2.2 0])) (fun z => (.ret, [.dead, .dead, .dead, .bool z.1, .dead, .dead, .dead, .dead, .bp 0 0], [.box [.own 1, .own 2, .own 3, .int .i64 z.2.1, .int .i64 z.2.2.1, .own 4], .arr tVersion z.2.2.2.1, .dep tTxn z.2.2.2.2.1 0, .dep tTxn z.2.2.2.2.2.1 0, .dep tTxn z.2.2.2.2.2.2 0])))

theorem n20n_jx5000018 (x : q33T) : exec G83 ⟨0, 151, n20n_loops⟩ (loopBody Try.f13 5000018) (bodyK ⟨0, 151, n20n_loops⟩ [1, 2, 3, 6, 8, 9, 10, 11, 13] []) (setEs (deads 151) [1, 2, 3, 6, 8, 9, 10, 11, 13] (n20n_jv5000018 x)) (n20n_js5000018 x) = n20n_j5000018 x (fun z => some ⟨(n20n_je5000018 z).1, (n20n_je5000018 z).2.1, (n20n_je5000018 z).2.2⟩) := by
  kernel_rfl

theorem n20n_lo5000018 : ∀ sp, (n20n_loops 5000018) = some sp → CutOk G83 ⟨0, 151, n20n_loops⟩ sp (loopBody Try.f13 5000018) := by
  intro sp hsp vals st k r h
  cases hsp
  dsimp only at h
  rcases onPats_inv2 h with ⟨p, q, rfl, rfl, h⟩ | h
  · exact cut_runs n20n_jp5000018 n20n_jv5000018 n20n_js5000018 n20n_je5000018 n20n_jx5000018 (p.1, p.2.1, p.2.2.2.1, p.2.2.2.2.2.1, p.2.2.2.2.2.2.1, p.2.2.2.2.2.2.2.1, q.1.1, q.1.2.1, q.1.2.2.1, q.1.2.2.2.1, q.1.2.2.2.2.1, q.1.2.2.2.2.2.1, q.2.1.2.2.2.1, q.2.1.2.2.2.2.1, q.2.2.1.2.2.2.1, q.2.2.1.2.2.2.2.1, q.2.2.2.1, q.2.2.2.2.1, q.2.2.2.2.2.1, q.2.2.2.2.2.2.1, q.2.2.2.2.2.2.2.1, q.2.2.2.2.2.2.2.2.1, q.2.2.2.2.2.2.2.2.2.1, q.2.2.2.2.2.2.2.2.2.2.1) _ k r (fun z => by rcases z with z | z <;> rfl) h
  cases h

def n20n_jv5000012 : q34T → List AV := (fun x => [.int .i64 x.1, .str x.2.1, .bp 0 0, .bool x.2.2.1, .bp 1 0, .str x.2.2.2.1, .bool x.2.2.2.2.1, .int .i64 x.2.2.2.2.2.1, .bp 2 0, .bp 3 0, .str x.2.2.2.2.2.2.1, .bool x.2.2.2.2.2.2.2.1, .int .i64 x.2.2.2.2.2.2.2.2.1])
def n20n_js5000012 : q34T → St := (fun x => [.box [.lst tVersion x.2.2.2.2.2.2.2.2.2.1, .lst tTxn x.2.2.2.2.2.2.2.2.2.2.1, .lst tTxn x.2.2.2.2.2.2.2.2.2.2.2.1, .int .i64 x.2.2.2.2.2.2.2.2.2.2.2.2.1, .int .i64 x.2.2.2.2.2.2.2.2.2.2.2.2.2.1, .lst tTxn x.2.2.2.2.2.2.2.2.2.2.2.2.2.2.1], .box [.own 4, .own 5, .own 6, .int .i64 x.2.2.2.2.2.2.2.2.2.2.2.2.2.2.2.1, .int .i64 x.2.2.2.2.2.2.2.2.2.2.2.2.2.2.2.2.1, .own 7], .box [.own 8, .own 9, .own 10, .int .i64 x.2.2.2.2.2.2.2.2.2.2.2.2.2.2.2.2.2.1, .int .i64 x.2.2.2.2.2.2.2.2.2.2.2.2.2.2.2.2.2.2.1, .own 11], .box [.own 12, .own 13, .own 14, .int .i64 x.2.2.2.2.2.2.2.2.2.2.2.2.2.2.2.2.2.2.2.1, .int .i64 x.2.2.2.2.2.2.2.2.2.2.2.2.2.2.2.2.2.2.2.2.1, .own 15], .arr tVersion x.2.2.2.2.2.2.2.2.2.2.2.2.2.2.2.2.2.2.2.2.2.1, .arr tTxn x.2.2.2.2.2.2.2.2.2.2.2.2.2.2.2.2.2.2.2.2.2.2.1, .arr tTxn x.2.2.2.2.2.2.2.2.2.2.2.2.2.2.2.2.2.2.2.2.2.2.2.1, .arr tTxn x.2.2.2.2.2.2.2.2.2.2.2.2.2.2.2.2.2.2.2.2.2.2.2.2.1, .arr tVersion x.2.2.2.2.2.2.2.2.2.2.2.2.2.2.2.2.2.2.2.2.2.2.2.2.2.1, .dep tTxn x.2.2.2.2.2.2.2.2.2.2.2.2.2.2.2.2.2.2.2.2.2.2.2.2.2.2.1 0, .dep tTxn x.2.2.2.2.2.2.2.2.2.2.2.2.2.2.2.2.2.2.2.2.2.2.2.2.2.2.2.1 0, .dep tTxn x.2.2.2.2.2.2.2.2.2.2.2.2.2.2.2.2.2.2.2.2.2.2.2.2.2.2.2.2.1 0, .arr tVersion x.2.2.2.2.2.2.2.2.2.2.2.2.2.2.2.2.2.2.2.2.2.2.2.2.2.2.2.2.2.1, .dep tTxn x.2.2.2.2.2.2.2.2.2.2.2.2.2.2.2.2.2.2.2.2.2.2.2.2.2.2.2.2.2.2.1 0, .dep tTxn x.2.2.2.2.2.2.2.2.2.2.2.2.2.2.2.2.2.2.2.2.2.2.2.2.2.2.2.2.2.2.2.1 0, .dep tTxn x.2.2.2.2.2.2.2.2.2.2.2.2.2.2.2.2.2.2.2.2.2.2.2.2.2.2.2.2.2.2.2.2 0])
def n20n_je5000012 : (q34T ⊕ (q33T ⊕ q22T)) → Out × List AV × St := (Sum.elim (fun z => (.ret, [.int .i64 z.1, .str z.2.1, .bp 0 0, .bool z.2.2.1, .bp 1 0, .str z.2.2.2.1, .bool z.2.2.2.2.1, .int .i64 z.2.2.2.2.2.1, .bp 2 0, .bp 3 0, .str z.2.2.2.2.2.2.1, .bool z.2.2.2.2.2.2.2.1, .int .i64 z.2.2.2.2.2.2.2.2.1], [.box [.lst tVersion z.2.2.2.2.2.2.2.2.2.1, .lst tTxn z.2.2.2.2.2.2.2.2.2.2.1, .lst tTxn z.2.2.2.2.2.2.2.2.2.2.2.1, .int .i64 z.2.2.2.2.2.2.2.2.2.2.2.2.1, .int .i64 z.2.2.2.2.2.2.2.2.2.2.2.2.2.1, .lst tTxn z.2.2.2.2.2.2.2.2.2.2.2.2.2.2.1], .box [.own 4, .own 5, .own 6, .int .i64 z.2.2.2.2.2.2.2.2.2.2.2.2.2.2.2.1, .int .i64 z.2.2.2.2.2.2.2.2.2.2.2.2.2.2.2.2.1, .own 7], .box [.own 8, .own 9, .own 10, .int .i64 z.2.2.2.2.2.2.2.2.2.2.2.2.2.2.2.2.2.1, .int .i64 z.2.2.2.2.2.2.2.2.2.2.2.2.2.2.2.2.2.2.1, .own 11], .box [.own 12, .own 13, .own 14, .int .i64 z.2.2.2.2.2.2.2.2.2.2.2.2.2.2.2.2.2.2.2.1, .int .i64 z.2.2.2.2.2.2.2.2.2.2.2.2.2.2.2.2.2.2.2.2.1, .own 15], .arr tVersion z.2.2.2.2.2.2.2.2.2.2.2.2.2.2.2.2.2.2.2.2.2.1, .arr tTxn z.2.2.2.2.2.2.2.2.2.2.2.2.2.2.2.2.2.2.2.2.2.2.1, .arr tTxn z.2.2.2.2.2.2.2.2.2.2.2.2.2.2.2.2.2.2.2.2.2.2.2.1, .arr tTxn z.2.2.2.2.2.2.2.2.2.2.2.2.2.2.2.2.2.2.2.2.2.2.2.2.1, .arr tVersion z.2.2.2.2.2.2.2.2.2.2.2.2.2.2.2.2.2.2.2.2.2.2.2.2.2.1, .dep tTxn z.2.2.2.2.2.2.2.2.2.2.2.2.2.2.2.2.2.2.2.2.2.2.2.2.2.2.1 0, .dep tTxn z.2.2.2.2.2.2.2.2.2.2.2.2.2.2.2.2.2.2.2.2.2.2.2.2.2.2.2.1 0, .dep tTxn z.2.2.2.2.2.2.2.2.2.2.2.2.2.2.2.2.2.2.2.2.2.2.2.2.2.2.2.2.1 0, .arr tVersion z.2.2.2.2.2.2.2.2.2.2.2.2.2.2.2.2.2.2.2.2.2.2.2.2.2.2.2.2.2.1, .dep tTxn z.2.2.2.2.2.2.2.2.2.2.2.2.2.2.2.2.2.2.2.2.2.2.2.2.2.2.2.2.2.2.1 0, .dep tTxn z.2.2.2.2.2.2.2.2.2.2.2.2.2.2.2.2.2.2.2.2.2.2.2.2.2.2.2.2.2.2.2.1 0, .dep tTxn z.2.2.2.2.2.2.2.2.2.2.2.2.2.2.2.2.2.2.2.2.2.2.2.2.2.2.2.2.2.2.2.2 0])) (Sum.elim (fun z => (.ret, [.int .i64 z.1, .str z.2.1, .bp 0 0, .bool z.2.2.1, .bp 1 0, .str z.2.2.2.1, .bool z.2.2.2.2.1, .int .i64 z.2.2.2.2.2.1, .dead, .bp 2 0, .dead, .dead, .dead], [.box [.lst tVersion z.2.2.2.2.2.2.1, .lst tTxn z.2.2.2.2.2.2.2.1, .lst tTxn z.2.2.2.2.2.2.2.2.1, .int .i64 z.2.2.2.2.2.2.2.2.2.1, .int .i64 z.2.2.2.2.2.2.2.2.2.2.1, .lst tTxn z.2.2.2.2.2.2.2.2.2.2.2.1], .box [.own 3, .own 4, .own 5, .int .i64 z.2.2.2.2.2.2.2.2.2.2.2.2.1, .int .i64 z.2.2.2.2.2.2.2.2.2.2.2.2.2.1, .own 6], .box [.own 7, .own 8, .own 9, .int .i64 z.2.2.2.2.2.2.2.2.2.2.2.2.2.2.1, .int .i64 z.2.2.2.2.2.2.2.2.2.2.2.2.2.2.2.1, .own 10], .arr tVersion z.2.2.2.2.2.2.2.2.2.2.2.2.2.2.2.2.1, .arr tTxn z.2.2.2.2.2.2.2.2.2.2.2.2.2.2.2.2.2.1, .arr tTxn z.2.2.2.2.2.2.2.2.2.2.2.2.2.2.2.2.2.2.1, .arr tTxn z.2.2.2.2.2.2.2.2.2.2.2.2.2.2.2.2.2.2.2.1, .arr tVersion z.2.2.2.2.2.2.2.2.2.2.2.2.2.2.2.2.2.2.2.2.1, .dep tTxn z.2.2.2.2.2.2.2.2.2.2.2.2.2.2.2.2.2.2.2.2.2.1 0, .dep tTxn z.2.2.2.2.2.2.2.2.2.2.2.2.2.2.2.2.2.2.2.2.2.2.1 0, .dep tTxn z.2.2.2.2.2.2.2.2.2.2.2.2.2.2.2.2.2.2.2.2.2.2.2 0])) (fun z => (.ret, [.dead, .dead, .dead, .bool z.1, .dead, .dead, .dead, .dead, .dead, .bp 0 0, .dead, .dead, .dead], [.box [.own 1, .own 2, .own 3, .int .i64 z.2.1, .int .i64 z.2.2.1, .own 4], .arr tVersion z.2.2.2.1, .dep tTxn z.2.2.2.2.1 0, .dep tTxn z.2.2.2.2.2.1 0, .dep tTxn z.2.2.2.2.2.2 0]))))

theorem n20n_jx5000012 (x : q34T) : exec G83 ⟨0, 151, n20n_loops⟩ (loopBody Try.f13 5000012) (bodyK ⟨0, 151, n20n_loops⟩ [1, 2, 3, 6, 8, 9, 10, 11, 12, 13, 14, 15, 16] []) (setEs (deads 151) [1, 2, 3, 6, 8, 9, 10, 11, 12, 13, 14, 15, 16] (n20n_jv5000012 x)) (n20n_js5000012 x) = n20n_j5000012 x (fun z => some ⟨(n20n_je5000012 z).1, (n20n_je5000012 z).2.1, (n20n_je5000012 z).2.2⟩) := by
  kernel_rfl

theorem n20n_lo5000012 : ∀ sp, (n20n_loops 5000012) = some sp → CutOk G83 ⟨0, 151, n20n_loops⟩ sp (loopBody Try.f13 5000012) := by
  intro sp hsp vals st k r h
  cases hsp
  dsimp only at h
  rcases onPats_inv2 h with ⟨p, q, rfl, rfl, h⟩ | h
  · exact cut_runs n20n_jp5000012 n20n_jv5000012 n20n_js5000012 n20n_je5000012 n20n_jx5000012 (p.1, p.2.1, p.2.2.2.1, p.2.2.2.2.2.1, p.2.2.2.2.2.2.1, p.2.2.2.2.2.2.2.1, p.2.2.2.2.2.2.2.2.2.2.1, p.2.2.2.2.2.2.2.2.2.2.2.1, p.2.2.2.2.2.2.2.2.2.2.2.2.1, q.1.1, q.1.2.1, q.1.2.2.1, q.1.2.2.2.1, q.1.2.2.2.2.1, q.1.2.2.2.2.2.1, q.2.1.2.2.2.1, q.2.1.2.2.2.2.1, q.2.2.1.2.2.2.1, q.2.2.1.2.2.2.2.1, q.2.2.2.1.2.2.2.1, q.2.2.2.1.2.2.2.2.1, q.2.2.2.2.1, q.2.2.2.2.2.1, q.2.2.2.2.2.2.1, q.2.2.2.2.2.2.2.1, q.2.2.2.2.2.2.2.2.1, q.2.2.2.2.2.2.2.2.2.1, q.2.2.2.2.2.2.2.2.2.2.1, q.2.2.2.2.2.2.2.2.2.2.2.1, q.2.2.2.2.2.2.2.2.2.2.2.2.1, q.2.2.2.2.2.2.2.2.2.2.2.2.2.1, q.2.2.2.2.2.2.2.2.2.2.2.2.2.2.1, q.2.2.2.2.2.2.2.2.2.2.2.2.2.2.2.1) _ k r (fun z => by rcases z with z | z | z <;> rfl) h
  cases h

theorem n20n_y (a0 : (List dVersion)) (a1 : (List dTxn)) (a2 : (List dTxn)) (a3 : Int) (a4 : Int) (a5 : (List dTxn)) (a6 : Int) (a7 : ByteArray) : execFn G83 n20n_loops Try.f13 [.agg [.lst tVersion a0, .lst tTxn a1, .lst tTxn a2, .int .i64 a3, .int .i64 a4, .lst tTxn a5], .int .i64 a6, .str a7] [] = n20n_k ((a0, (a1, (a2, (a3, a4)))), a5) a6 a7 (fun (y : Bool) => some ⟨.ret, [.bool y], []⟩) := by rw [n20n_e]; kernel_rfl

theorem n20n_l : LoopsOk G83 ⟨0, 151, n20n_loops⟩ (Try.f13.body.getD .skip) :=
  loopsOk_of (ids := [5000029, 5000018, 5000012]) (by kernel_rfl) (by kernel_rfl) ⟨n20n_lo5000029, ⟨n20n_lo5000018, ⟨n20n_lo5000012, trivial⟩⟩⟩

theorem n20n_c : Contract Try.prog 13 n20n_g := by
  refine told G83_ok follows Try.func13 (c := Try.f13.body.getD .skip) (by kernel_rfl) ?_
  intro args s k r hk
  unfold n20n_g at hk
  rcases onPats_inv hk with ⟨p, q, rfl, rfl⟩ | hk
  · exact ⟨n20n_loops, n20n_q p.1.1 p.1.2.1 p.1.2.2.1 p.1.2.2.2.1 p.1.2.2.2.2.1 p.1.2.2.2.2.2.1 p.2.1 p.2.2.1, n20n_y p.1.1 p.1.2.1 p.1.2.2.1 p.1.2.2.2.1 p.1.2.2.2.2.1 p.1.2.2.2.2.2.1 p.2.1 p.2.2.1, n20n_l⟩
  cases hk

def G84 : Glob := G83.add 13 n20n_g

theorem G84_ok : GlobOk Try.prog G84 := G83_ok.add ⟨Try.f13, Try.func13, by kernel_rfl, by kernel_rfl⟩ n20n_c

end

end Go.VE
