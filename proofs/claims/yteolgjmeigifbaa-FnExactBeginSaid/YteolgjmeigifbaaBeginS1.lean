/- Each function told by its native program; written by gen.py. -/
import Derived.Test.YteolgjmeigifbaaBeginS0
namespace Go.VE
open Go.Proofs
noncomputable section
set_option linter.unusedVariables false
set_option linter.unusedSimpArgs false
set_option maxRecDepth 100000
def vrx : Nat → Option LoopSpec
  | _ => none
theorem w2l (a0 : ByteArray) (a1 : ByteArray) (a2 : Bool) (a3 : Int) (a4 : Int) : var G0 vrx Try.f66 [.agg [.str a0, .str a1, .bool a2, .int .i64 a3], .int .i64 a4] [] = vw0 (a0, (a1, (a2, a3))) a4 (fun (y : Int) => some ⟨.ret, [.int .i64 y], []⟩) := by rw [wgi]; kernel_rfl
theorem w2k : vao G0 ⟨0, 20, vrx⟩ (Try.f66.body.getD .skip) :=
  vaf (ids := []) (by kernel_rfl) (by kernel_rfl) trivial
theorem w3r : val Try.prog 66 wj8 := by
  refine told G0_ok follows Try.func66 (c := Try.f66.body.getD .skip) (by kernel_rfl) ?_
  intro args s k r hk
  unfold wj8 at hk
  rcases vag hk with ⟨p, q, rfl, rfl⟩ | hk
  · exact ⟨vrx, (wsm (p.1.1, (p.1.2.1, (p.1.2.2.1, p.1.2.2.2.1))) p.2.1).map _, w2l p.1.1 p.1.2.1 p.1.2.2.1 p.1.2.2.2.1 p.2.1, w2k⟩
  cases hk
def G1 : Glob := G0.add 66 wj8
theorem G1_ok : GlobOk Try.prog G1 := G0_ok.add ⟨Try.f66, Try.func66, by kernel_rfl, by kernel_rfl⟩ w3r
def ve8 : Nat → Option LoopSpec
  | 0 => some ⟨[0, 1, 4, 5], [], fun vals st k => vam [.lst tVersion, .int .i64, .int .i64, .int .i64] [] vals st (fun p q => vah vkd Fuel (p.1, p.2.1, p.2.2.1, p.2.2.2.1) (Sum.elim (fun z => k .ret [.lst tVersion z.1, .int .i64 z.2.1, .int .i64 z.2.2.1, .int .i64 z.2.2.2] []) (fun z => k (.exit 0) [.lst tVersion z.1, .int .i64 z.2.1, .int .i64 z.2.2.1, .int .i64 z.2.2.2] [])))
      (none)⟩
  | _ => none
def v88 : q15T → List AV := (fun x => [.lst tVersion x.1, .int .i64 x.2.1, .int .i64 x.2.2.1, .int .i64 x.2.2.2])
def v73 : q15T → St := (fun x => [])
def v3o : (q15T ⊕ q15T) → Out × List AV × St := (Sum.elim (fun z => (.ret, [.lst tVersion z.1, .int .i64 z.2.1, .int .i64 z.2.2.1, .int .i64 z.2.2.2], [])) (fun z => ((.exit 0), [.lst tVersion z.1, .int .i64 z.2.1, .int .i64 z.2.2.1, .int .i64 z.2.2.2], [])))
theorem wnj (x : q15T) : exec G1 ⟨0, 27, ve8⟩ (vad Try.f10 0) (va5 ⟨0, 27, ve8⟩ [0, 1, 4, 5] []) (va3 (va0 27) [0, 1, 4, 5] (v88 x)) (v73 x) = vkd x (Sum.elim (fun y => some ⟨.norm, v88 y, v73 y⟩) fun z => some ⟨(v3o z).1, (v3o z).2.1, (v3o z).2.2⟩) := by
  kernel_rfl
theorem wm9 : ∀ sp, (ve8 0) = some sp → va8 G1 ⟨0, 27, ve8⟩ sp (vad Try.f10 0) := by
  intro sp hsp vals st k r h
  cases hsp
  dsimp only at h
  rcases vai h with ⟨p, q, rfl, rfl, h⟩ | h
  · exact vaq wcv v88 v73 v3o (fun z => by rcases z with z | z <;> (intro h; cases h)) wnj Fuel (p.1, p.2.1, p.2.2.1, p.2.2.2.1) _ k r (fun z => by rcases z with z | z <;> rfl) h
  cases h
theorem w19 (a0 : (List vac)) (a1 : Int) : var G1 ve8 Try.f10 [.lst tVersion a0, .int .i64 a1] [] = vzm a0 a1 (fun (y : Int) => some ⟨.ret, [.int .i64 y], []⟩) := by rw [wg9]; kernel_rfl
theorem w2e : vao G1 ⟨0, 27, ve8⟩ (Try.f10.body.getD .skip) :=
  vaf (ids := [0]) (by kernel_rfl) (by kernel_rfl) ⟨wm9, trivial⟩
theorem w3l : val Try.prog 10 wl0 := by
  refine told G1_ok follows Try.func10 (c := Try.f10.body.getD .skip) (by kernel_rfl) ?_
  intro args s k r hk
  unfold wl0 at hk
  rcases vag hk with ⟨p, q, rfl, rfl⟩ | hk
  · exact ⟨ve8, (wtd p.1 p.2.1).map _, w19 p.1 p.2.1, w2e⟩
  cases hk
def G2 : Glob := G1.add 10 wl0
theorem G2_ok : GlobOk Try.prog G2 := G1_ok.add ⟨Try.f10, Try.func10, by kernel_rfl, by kernel_rfl⟩ w3l
def vsr : Nat → Option LoopSpec
  | _ => none
theorem wyy (a0 : ByteArray) (a1 : ByteArray) (a2 : Int) : var G2 vsr Try.f11 [.agg [.str a0, .str a1], .int .i64 a2] [] = vw8 (a0, a1) a2 (fun (y : Int) => some ⟨.ret, [.int .i64 y], []⟩) := by rw [wmg]; kernel_rfl
theorem wxy : vao G2 ⟨0, 20, vsr⟩ (Try.f11.body.getD .skip) :=
  vaf (ids := []) (by kernel_rfl) (by kernel_rfl) trivial
theorem w13 : val Try.prog 11 wk9 := by
  refine told G2_ok follows Try.func11 (c := Try.f11.body.getD .skip) (by kernel_rfl) ?_
  intro args s k r hk
  unfold wk9 at hk
  rcases vag hk with ⟨p, q, rfl, rfl⟩ | hk
  · exact ⟨vsr, (wtf (p.1.1, p.1.2.1) p.2.1).map _, wyy p.1.1 p.1.2.1 p.2.1, wxy⟩
  cases hk
def G3 : Glob := G2.add 11 wk9
theorem G3_ok : GlobOk Try.prog G3 := G2_ok.add ⟨Try.f11, Try.func11, by kernel_rfl, by kernel_rfl⟩ w13
def vfu : Nat → Option LoopSpec
  | 0 => some ⟨[0, 1, 4, 5], [], fun vals st k => vam [.lst tRange, .int .i64, .int .i64, .int .i64] [] vals st (fun p q => vah vjv Fuel (p.1, p.2.1, p.2.2.1, p.2.2.2.1) (Sum.elim (fun z => k .ret [.lst tRange z.1, .int .i64 z.2.1, .int .i64 z.2.2.1, .int .i64 z.2.2.2] []) (fun z => k (.exit 0) [.lst tRange z.1, .int .i64 z.2.1, .int .i64 z.2.2.1, .int .i64 z.2.2.2] [])))
      (none)⟩
  | _ => none
def v8b : q4T → List AV := (fun x => [.lst tRange x.1, .int .i64 x.2.1, .int .i64 x.2.2.1, .int .i64 x.2.2.2])
def v8e : q4T → St := (fun x => [])
def v36 : (q4T ⊕ q4T) → Out × List AV × St := (Sum.elim (fun z => (.ret, [.lst tRange z.1, .int .i64 z.2.1, .int .i64 z.2.2.1, .int .i64 z.2.2.2], [])) (fun z => ((.exit 0), [.lst tRange z.1, .int .i64 z.2.1, .int .i64 z.2.2.1, .int .i64 z.2.2.2], [])))
theorem wrv (x : q4T) : exec G3 ⟨0, 27, vfu⟩ (vad Try.f64 0) (va5 ⟨0, 27, vfu⟩ [0, 1, 4, 5] []) (va3 (va0 27) [0, 1, 4, 5] (v8b x)) (v8e x) = vjv x (Sum.elim (fun y => some ⟨.norm, v8b y, v8e y⟩) fun z => some ⟨(v36 z).1, (v36 z).2.1, (v36 z).2.2⟩) := by
  kernel_rfl
theorem wqm : ∀ sp, (vfu 0) = some sp → va8 G3 ⟨0, 27, vfu⟩ sp (vad Try.f64 0) := by
  intro sp hsp vals st k r h
  cases hsp
  dsimp only at h
  rcases vai h with ⟨p, q, rfl, rfl, h⟩ | h
  · exact vaq wb7 v8b v8e v36 (fun z => by rcases z with z | z <;> (intro h; cases h)) wrv Fuel (p.1, p.2.1, p.2.2.1, p.2.2.2.1) _ k r (fun z => by rcases z with z | z <;> rfl) h
  cases h
theorem w0u (a0 : (List van)) (a1 : Int) : var G3 vfu Try.f64 [.lst tRange a0, .int .i64 a1] [] = vzo a0 a1 (fun (y : Int) => some ⟨.ret, [.int .i64 y], []⟩) := by rw [whj]; kernel_rfl
theorem w1s : vao G3 ⟨0, 27, vfu⟩ (Try.f64.body.getD .skip) :=
  vaf (ids := [0]) (by kernel_rfl) (by kernel_rfl) ⟨wqm, trivial⟩
theorem w17 : val Try.prog 64 wlu := by
  refine told G3_ok follows Try.func64 (c := Try.f64.body.getD .skip) (by kernel_rfl) ?_
  intro args s k r hk
  unfold wlu at hk
  rcases vag hk with ⟨p, q, rfl, rfl⟩ | hk
  · exact ⟨vfu, (wsr p.1 p.2.1).map _, w0u p.1 p.2.1, w1s⟩
  cases hk
def G4 : Glob := G3.add 64 wlu
theorem G4_ok : GlobOk Try.prog G4 := G3_ok.add ⟨Try.f64, Try.func64, by kernel_rfl, by kernel_rfl⟩ w17
def vru : Nat → Option LoopSpec
  | _ => none
theorem w3u (a0 : ByteArray) (a1 : ByteArray) (a2 : Bool) (a3 : Int) : var G4 vru Try.f49 [.agg [.str a0, .str a1, .bool a2], .int .i64 a3] [] = vv1 (a0, (a1, a2)) a3 (fun (y : Int) => some ⟨.ret, [.int .i64 y], []⟩) := by rw [wjb]; kernel_rfl
theorem wwx : vao G4 ⟨0, 20, vru⟩ (Try.f49.body.getD .skip) :=
  vaf (ids := []) (by kernel_rfl) (by kernel_rfl) trivial
theorem w20 : val Try.prog 49 wh8 := by
  refine told G4_ok follows Try.func49 (c := Try.f49.body.getD .skip) (by kernel_rfl) ?_
  intro args s k r hk
  unfold wh8 at hk
  rcases vag hk with ⟨p, q, rfl, rfl⟩ | hk
  · exact ⟨vru, (wtw (p.1.1, (p.1.2.1, p.1.2.2.1)) p.2.1).map _, w3u p.1.1 p.1.2.1 p.1.2.2.1 p.2.1, wwx⟩
  cases hk
def G5 : Glob := G4.add 49 wh8
theorem G5_ok : GlobOk Try.prog G5 := G4_ok.add ⟨Try.f49, Try.func49, by kernel_rfl, by kernel_rfl⟩ w20
def vfl : Nat → Option LoopSpec
  | 0 => some ⟨[0, 1, 4, 5], [], fun vals st k => vam [.lst tWrite, .int .i64, .int .i64, .int .i64] [] vals st (fun p q => vah vle Fuel (p.1, p.2.1, p.2.2.1, p.2.2.2.1) (Sum.elim (fun z => k .ret [.lst tWrite z.1, .int .i64 z.2.1, .int .i64 z.2.2.1, .int .i64 z.2.2.2] []) (fun z => k (.exit 0) [.lst tWrite z.1, .int .i64 z.2.1, .int .i64 z.2.2.1, .int .i64 z.2.2.2] [])))
      (none)⟩
  | _ => none
def v6q : q19T → List AV := (fun x => [.lst tWrite x.1, .int .i64 x.2.1, .int .i64 x.2.2.1, .int .i64 x.2.2.2])
def v77 : q19T → St := (fun x => [])
def v2p : (q19T ⊕ q19T) → Out × List AV × St := (Sum.elim (fun z => (.ret, [.lst tWrite z.1, .int .i64 z.2.1, .int .i64 z.2.2.1, .int .i64 z.2.2.2], [])) (fun z => ((.exit 0), [.lst tWrite z.1, .int .i64 z.2.1, .int .i64 z.2.2.1, .int .i64 z.2.2.2], [])))
theorem wpv (x : q19T) : exec G5 ⟨0, 27, vfl⟩ (vad Try.f65 0) (va5 ⟨0, 27, vfl⟩ [0, 1, 4, 5] []) (va3 (va0 27) [0, 1, 4, 5] (v6q x)) (v77 x) = vle x (Sum.elim (fun y => some ⟨.norm, v6q y, v77 y⟩) fun z => some ⟨(v2p z).1, (v2p z).2.1, (v2p z).2.2⟩) := by
  kernel_rfl
theorem wpi : ∀ sp, (vfl 0) = some sp → va8 G5 ⟨0, 27, vfl⟩ sp (vad Try.f65 0) := by
  intro sp hsp vals st k r h
  cases hsp
  dsimp only at h
  rcases vai h with ⟨p, q, rfl, rfl, h⟩ | h
  · exact vaq wa5 v6q v77 v2p (fun z => by rcases z with z | z <;> (intro h; cases h)) wpv Fuel (p.1, p.2.1, p.2.2.1, p.2.2.2.1) _ k r (fun z => by rcases z with z | z <;> rfl) h
  cases h
theorem w03 (a0 : (List vaj)) (a1 : Int) : var G5 vfl Try.f65 [.lst tWrite a0, .int .i64 a1] [] = v0x a0 a1 (fun (y : Int) => some ⟨.ret, [.int .i64 y], []⟩) := by rw [wlh]; kernel_rfl
theorem wv8 : vao G5 ⟨0, 27, vfl⟩ (Try.f65.body.getD .skip) :=
  vaf (ids := [0]) (by kernel_rfl) (by kernel_rfl) ⟨wpi, trivial⟩
theorem w22 : val Try.prog 65 wix := by
  refine told G5_ok follows Try.func65 (c := Try.f65.body.getD .skip) (by kernel_rfl) ?_
  intro args s k r hk
  unfold wix at hk
  rcases vag hk with ⟨p, q, rfl, rfl⟩ | hk
  · exact ⟨vfl, (wty p.1 p.2.1).map _, w03 p.1 p.2.1, wv8⟩
  cases hk
def G6 : Glob := G5.add 65 wix
theorem G6_ok : GlobOk Try.prog G6 := G5_ok.add ⟨Try.f65, Try.func65, by kernel_rfl, by kernel_rfl⟩ w22
def vr4 : Nat → Option LoopSpec
  | _ => none
theorem w2t (a0 : Int) (a1 : Int) (a2 : Int) (a3 : Int) (a4 : (List van)) (a5 : (List vaj)) (a6 : Bool) (a7 : ByteArray) (a8 : Int) : var G6 vr4 Try.f9 [.agg [.int .i64 a0, .int .i64 a1, .int .i64 a2, .int .i64 a3, .lst tRange a4, .lst tWrite a5, .bool a6, .str a7], .int .i64 a8] [] = vwh (a0, (a1, (a2, (a3, (a4, (a5, (a6, a7))))))) a8 (fun (y : Int) => some ⟨.ret, [.int .i64 y], []⟩) := by rw [wgu]; kernel_rfl
theorem ww0 : vao G6 ⟨0, 25, vr4⟩ (Try.f9.body.getD .skip) :=
  vaf (ids := []) (by kernel_rfl) (by kernel_rfl) trivial
theorem w3n : val Try.prog 9 wkh := by
  refine told G6_ok follows Try.func9 (c := Try.f9.body.getD .skip) (by kernel_rfl) ?_
  intro args s k r hk
  unfold wkh at hk
  rcases vag hk with ⟨p, q, rfl, rfl⟩ | hk
  · exact ⟨vr4, (wub (p.1.1, (p.1.2.1, (p.1.2.2.1, (p.1.2.2.2.1, (p.1.2.2.2.2.1, (p.1.2.2.2.2.2.1, (p.1.2.2.2.2.2.2.1, p.1.2.2.2.2.2.2.2.1))))))) p.2.1).map _, w2t p.1.1 p.1.2.1 p.1.2.2.1 p.1.2.2.2.1 p.1.2.2.2.2.1 p.1.2.2.2.2.2.1 p.1.2.2.2.2.2.2.1 p.1.2.2.2.2.2.2.2.1 p.2.1, ww0⟩
  cases hk
def G7 : Glob := G6.add 9 wkh
theorem G7_ok : GlobOk Try.prog G7 := G6_ok.add ⟨Try.f9, Try.func9, by kernel_rfl, by kernel_rfl⟩ w3n
def ve0 : Nat → Option LoopSpec
  | 0 => some ⟨[0, 1, 4, 5], [], fun vals st k => vam [.lst tTxn, .int .i64, .int .i64, .int .i64] [] vals st (fun p q => vah vj4 Fuel (p.1, p.2.1, p.2.2.1, p.2.2.2.1) (Sum.elim (fun z => k .ret [.lst tTxn z.1, .int .i64 z.2.1, .int .i64 z.2.2.1, .int .i64 z.2.2.2] []) (fun z => k (.exit 0) [.lst tTxn z.1, .int .i64 z.2.1, .int .i64 z.2.2.1, .int .i64 z.2.2.2] [])))
      (none)⟩
  | _ => none
def v58 : q10T → List AV := (fun x => [.lst tTxn x.1, .int .i64 x.2.1, .int .i64 x.2.2.1, .int .i64 x.2.2.2])
def v67 : q10T → St := (fun x => [])
def v29 : (q10T ⊕ q10T) → Out × List AV × St := (Sum.elim (fun z => (.ret, [.lst tTxn z.1, .int .i64 z.2.1, .int .i64 z.2.2.1, .int .i64 z.2.2.2], [])) (fun z => ((.exit 0), [.lst tTxn z.1, .int .i64 z.2.1, .int .i64 z.2.2.1, .int .i64 z.2.2.2], [])))
theorem wm8 (x : q10T) : exec G7 ⟨0, 27, ve0⟩ (vad Try.f128 0) (va5 ⟨0, 27, ve0⟩ [0, 1, 4, 5] []) (va3 (va0 27) [0, 1, 4, 5] (v58 x)) (v67 x) = vj4 x (Sum.elim (fun y => some ⟨.norm, v58 y, v67 y⟩) fun z => some ⟨(v29 z).1, (v29 z).2.1, (v29 z).2.2⟩) := by
  kernel_rfl
theorem wn7 : ∀ sp, (ve0 0) = some sp → va8 G7 ⟨0, 27, ve0⟩ sp (vad Try.f128 0) := by
  intro sp hsp vals st k r h
  cases hsp
  dsimp only at h
  rcases vai h with ⟨p, q, rfl, rfl, h⟩ | h
  · exact vaq wax v58 v67 v29 (fun z => by rcases z with z | z <;> (intro h; cases h)) wm8 Fuel (p.1, p.2.1, p.2.2.1, p.2.2.2.1) _ k r (fun z => by rcases z with z | z <;> rfl) h
  cases h
theorem wy7 (a0 : (List dTxn)) (a1 : Int) : var G7 ve0 Try.f128 [.lst tTxn a0, .int .i64 a1] [] = vti a0 a1 (fun (y : Int) => some ⟨.ret, [.int .i64 y], []⟩) := by rw [wlt]; kernel_rfl
theorem w0a : vao G7 ⟨0, 27, ve0⟩ (Try.f128.body.getD .skip) :=
  vaf (ids := [0]) (by kernel_rfl) (by kernel_rfl) ⟨wn7, trivial⟩
theorem w1f : val Try.prog 128 wg8 := by
  refine told G7_ok follows Try.func128 (c := Try.f128.body.getD .skip) (by kernel_rfl) ?_
  intro args s k r hk
  unfold wg8 at hk
  rcases vag hk with ⟨p, q, rfl, rfl⟩ | hk
  · exact ⟨ve0, (wa3 p.1 p.2.1).map _, wy7 p.1 p.2.1, w0a⟩
  cases hk
def G8 : Glob := G7.add 128 wg8
theorem G8_ok : GlobOk Try.prog G8 := G7_ok.add ⟨Try.f128, Try.func128, by kernel_rfl, by kernel_rfl⟩ w1f
def vro : Nat → Option LoopSpec
  | _ => none
theorem wxu (a0 : (List vac)) (a1 : (List dTxn)) (a2 : (List dTxn)) (a3 : Int) (a4 : Int) (a5 : Int) : var G8 vro Try.f59 [.agg [.lst tVersion a0, .lst tTxn a1, .lst tTxn a2, .int .i64 a3, .int .i64 a4], .int .i64 a5] [] = v0p (a0, (a1, (a2, (a3, a4)))) a5 (fun (y : Int) => some ⟨.ret, [.int .i64 y], []⟩) := by rw [wj1]; kernel_rfl
theorem wxx : vao G8 ⟨0, 24, vro⟩ (Try.f59.body.getD .skip) :=
  vaf (ids := []) (by kernel_rfl) (by kernel_rfl) trivial
theorem w3f : val Try.prog 59 wjp := by
  refine told G8_ok follows Try.func59 (c := Try.f59.body.getD .skip) (by kernel_rfl) ?_
  intro args s k r hk
  unfold wjp at hk
  rcases vag hk with ⟨p, q, rfl, rfl⟩ | hk
  · exact ⟨vro, (wsl (p.1.1, (p.1.2.1, (p.1.2.2.1, (p.1.2.2.2.1, p.1.2.2.2.2.1)))) p.2.1).map _, wxu p.1.1 p.1.2.1 p.1.2.2.1 p.1.2.2.2.1 p.1.2.2.2.2.1 p.2.1, wxx⟩
  cases hk
def G9 : Glob := G8.add 59 wjp
theorem G9_ok : GlobOk Try.prog G9 := G8_ok.add ⟨Try.f59, Try.func59, by kernel_rfl, by kernel_rfl⟩ w3f
def vs0 : Nat → Option LoopSpec
  | _ => none
theorem wzt (a0 : (List vac)) (a1 : (List dTxn)) (a2 : (List dTxn)) (a3 : Int) (a4 : Int) (a5 : (List dTxn)) (a6 : Int) : var G9 vs0 Try.f48 [.agg [.lst tVersion a0, .lst tTxn a1, .lst tTxn a2, .int .i64 a3, .int .i64 a4, .lst tTxn a5], .int .i64 a6] [] = vun ((a0, (a1, (a2, (a3, a4)))), a5) a6 (fun (y : Int) => some ⟨.ret, [.int .i64 y], []⟩) := by rw [wj9]; kernel_rfl
theorem wvy : vao G9 ⟨0, 18, vs0⟩ (Try.f48.body.getD .skip) :=
  vaf (ids := []) (by kernel_rfl) (by kernel_rfl) trivial
theorem w0g : val Try.prog 48 wkg := by
  refine told G9_ok follows Try.func48 (c := Try.f48.body.getD .skip) (by kernel_rfl) ?_
  intro args s k r hk
  unfold wkg at hk
  rcases vag hk with ⟨p, q, rfl, rfl⟩ | hk
  · exact ⟨vs0, (wtj ((p.1.1, (p.1.2.1, (p.1.2.2.1, (p.1.2.2.2.1, p.1.2.2.2.2.1)))), p.1.2.2.2.2.2.1) p.2.1).map _, wzt p.1.1 p.1.2.1 p.1.2.2.1 p.1.2.2.2.1 p.1.2.2.2.2.1 p.1.2.2.2.2.2.1 p.2.1, wvy⟩
  cases hk
def G10 : Glob := G9.add 48 wkg
theorem G10_ok : GlobOk Try.prog G10 := G9_ok.add ⟨Try.f48, Try.func48, by kernel_rfl, by kernel_rfl⟩ w0g
def vss : Nat → Option LoopSpec
  | _ => none
theorem w21 (a0 : ByteArray) (a1 : ByteArray) (a2 : Bool) (a3 : Int) : var G10 vss Try.f70 [.agg [.str a0, .str a1, .bool a2, .int .i64 a3]] [] = vwe (a0, (a1, (a2, a3))) (fun (y : q39T) => some ⟨.ret, [.agg [.str y.1, .str y.2.1, .bool y.2.2.1, .int .i64 y.2.2.2]], []⟩) := by rw [wmb]; kernel_rfl
theorem w12 : vao G10 ⟨0, 17, vss⟩ (Try.f70.body.getD .skip) :=
  vaf (ids := []) (by kernel_rfl) (by kernel_rfl) trivial
theorem wyx : val Try.prog 70 whs := by
  refine told G10_ok follows Try.func70 (c := Try.f70.body.getD .skip) (by kernel_rfl) ?_
  intro args s k r hk
  unfold whs at hk
  rcases vag hk with ⟨p, q, rfl, rfl⟩ | hk
  · exact ⟨vss, (wt3 (p.1.1, (p.1.2.1, (p.1.2.2.1, p.1.2.2.2.1)))).map _, w21 p.1.1 p.1.2.1 p.1.2.2.1 p.1.2.2.2.1, w12⟩
  cases hk
def G11 : Glob := G10.add 70 whs
theorem G11_ok : GlobOk Try.prog G11 := G10_ok.add ⟨Try.f70, Try.func70, by kernel_rfl, by kernel_rfl⟩ wyx
def vfj : Nat → Option LoopSpec
  | 0 => some ⟨[0, 3, 4], [], fun vals st k => vam [.lst tVersion, .own 0, .int .i64] [.arr tVersion] vals st (fun p q => vah vkg Fuel (p.1, p.2.2.1, q.1) (fun z => k (.exit 0) [.lst tVersion z.1, .own 0, .int .i64 z.2.1] [.arr tVersion z.2.2]))
      (none)⟩
  | _ => none
def v6e : q14T → List AV := (fun x => [.lst tVersion x.1, .own 0, .int .i64 x.2.1])
def v7g : q14T → St := (fun x => [.arr tVersion x.2.2])
def v09 : q14T → Out × List AV × St := (fun z => ((.exit 0), [.lst tVersion z.1, .own 0, .int .i64 z.2.1], [.arr tVersion z.2.2]))
theorem wq3 (x : q14T) : exec G11 ⟨0, 23, vfj⟩ (vad Try.f14 0) (va5 ⟨0, 23, vfj⟩ [0, 3, 4] []) (va3 (va0 23) [0, 3, 4] (v6e x)) (v7g x) = vkg x (Sum.elim (fun y => some ⟨.norm, v6e y, v7g y⟩) fun z => some ⟨(v09 z).1, (v09 z).2.1, (v09 z).2.2⟩) := by
  kernel_rfl
theorem wro : ∀ sp, (vfj 0) = some sp → va8 G11 ⟨0, 23, vfj⟩ sp (vad Try.f14 0) := by
  intro sp hsp vals st k r h
  cases hsp
  dsimp only at h
  rcases vai h with ⟨p, q, rfl, rfl, h⟩ | h
  · exact vaq wcm v6e v7g v09 (fun z => by (intro h; cases h)) wq3 Fuel (p.1, p.2.2.1, q.1) _ k r (fun z => rfl) h
  cases h
theorem wxn (a0 : (List vac)) : var G11 vfj Try.f14 [.lst tVersion a0] [] = vws a0 (fun (y : (List vac)) => some ⟨.ret, [.own 0], [.arr tVersion y]⟩) := by rw [wkm]; kernel_rfl
theorem wxf : vao G11 ⟨0, 23, vfj⟩ (Try.f14.body.getD .skip) :=
  vaf (ids := [0]) (by kernel_rfl) (by kernel_rfl) ⟨wro, trivial⟩
theorem wwp : val Try.prog 14 wmf := by
  refine told G11_ok follows Try.func14 (c := Try.f14.body.getD .skip) (by kernel_rfl) ?_
  intro args s k r hk
  unfold wmf at hk
  rcases vag hk with ⟨p, q, rfl, rfl⟩ | hk
  · exact ⟨vfj, (wtz p.1).map _, wxn p.1, wxf⟩
  cases hk
def G12 : Glob := G11.add 14 wmf
theorem G12_ok : GlobOk Try.prog G12 := G11_ok.add ⟨Try.f14, Try.func14, by kernel_rfl, by kernel_rfl⟩ wwp
def vr9 : Nat → Option LoopSpec
  | _ => none
theorem w0i (a0 : ByteArray) (a1 : ByteArray) : var G12 vr9 Try.f15 [.agg [.str a0, .str a1]] [] = vxd (a0, a1) (fun (y : (ByteArray × ByteArray)) => some ⟨.ret, [.agg [.str y.1, .str y.2]], []⟩) := by rw [wf2]; kernel_rfl
theorem wwn : vao G12 ⟨0, 11, vr9⟩ (Try.f15.body.getD .skip) :=
  vaf (ids := []) (by kernel_rfl) (by kernel_rfl) trivial
theorem w14 : val Try.prog 15 wi2 := by
  refine told G12_ok follows Try.func15 (c := Try.f15.body.getD .skip) (by kernel_rfl) ?_
  intro args s k r hk
  unfold wi2 at hk
  rcases vag hk with ⟨p, q, rfl, rfl⟩ | hk
  · exact ⟨vr9, (wua (p.1.1, p.1.2.1)).map _, w0i p.1.1 p.1.2.1, wwn⟩
  cases hk
def G13 : Glob := G12.add 15 wi2
theorem G13_ok : GlobOk Try.prog G13 := G12_ok.add ⟨Try.f15, Try.func15, by kernel_rfl, by kernel_rfl⟩ w14
def vfk : Nat → Option LoopSpec
  | 0 => some ⟨[0, 3, 4], [], fun vals st k => vam [.lst tRange, .own 0, .int .i64] [.arr tRange] vals st (fun p q => vah vkc Fuel (p.1, p.2.2.1, q.1) (fun z => k (.exit 0) [.lst tRange z.1, .own 0, .int .i64 z.2.1] [.arr tRange z.2.2]))
      (none)⟩
  | _ => none
def v8p : q3T → List AV := (fun x => [.lst tRange x.1, .own 0, .int .i64 x.2.1])
def v64 : q3T → St := (fun x => [.arr tRange x.2.2])
def v1d : q3T → Out × List AV × St := (fun z => ((.exit 0), [.lst tRange z.1, .own 0, .int .i64 z.2.1], [.arr tRange z.2.2]))
theorem wmx (x : q3T) : exec G13 ⟨0, 23, vfk⟩ (vad Try.f68 0) (va5 ⟨0, 23, vfk⟩ [0, 3, 4] []) (va3 (va0 23) [0, 3, 4] (v8p x)) (v64 x) = vkc x (Sum.elim (fun y => some ⟨.norm, v8p y, v64 y⟩) fun z => some ⟨(v1d z).1, (v1d z).2.1, (v1d z).2.2⟩) := by
  kernel_rfl
theorem wrq : ∀ sp, (vfk 0) = some sp → va8 G13 ⟨0, 23, vfk⟩ sp (vad Try.f68 0) := by
  intro sp hsp vals st k r h
  cases hsp
  dsimp only at h
  rcases vai h with ⟨p, q, rfl, rfl, h⟩ | h
  · exact vaq wb6 v8p v64 v1d (fun z => by (intro h; cases h)) wmx Fuel (p.1, p.2.2.1, q.1) _ k r (fun z => rfl) h
  cases h
theorem wwg (a0 : (List van)) : var G13 vfk Try.f68 [.lst tRange a0] [] = vwz a0 (fun (y : (List van)) => some ⟨.ret, [.own 0], [.arr tRange y]⟩) := by rw [wjq]; kernel_rfl
theorem wz3 : vao G13 ⟨0, 23, vfk⟩ (Try.f68.body.getD .skip) :=
  vaf (ids := [0]) (by kernel_rfl) (by kernel_rfl) ⟨wrq, trivial⟩
theorem wxl : val Try.prog 68 wmn := by
  refine told G13_ok follows Try.func68 (c := Try.f68.body.getD .skip) (by kernel_rfl) ?_
  intro args s k r hk
  unfold wmn at hk
  rcases vag hk with ⟨p, q, rfl, rfl⟩ | hk
  · exact ⟨vfk, (ws0 p.1).map _, wwg p.1, wz3⟩
  cases hk
def G14 : Glob := G13.add 68 wmn
theorem G14_ok : GlobOk Try.prog G14 := G13_ok.add ⟨Try.f68, Try.func68, by kernel_rfl, by kernel_rfl⟩ wxl
def vri : Nat → Option LoopSpec
  | _ => none
theorem wzm (a0 : ByteArray) (a1 : ByteArray) (a2 : Bool) : var G14 vri Try.f52 [.agg [.str a0, .str a1, .bool a2]] [] = vu0 (a0, (a1, a2)) (fun (y : (ByteArray × ByteArray × Bool)) => some ⟨.ret, [.agg [.str y.1, .str y.2.1, .bool y.2.2]], []⟩) := by rw [wmi]; kernel_rfl
theorem w11 : vao G14 ⟨0, 14, vri⟩ (Try.f52.body.getD .skip) :=
  vaf (ids := []) (by kernel_rfl) (by kernel_rfl) trivial
theorem w2j : val Try.prog 52 wio := by
  refine told G14_ok follows Try.func52 (c := Try.f52.body.getD .skip) (by kernel_rfl) ?_
  intro args s k r hk
  unfold wio at hk
  rcases vag hk with ⟨p, q, rfl, rfl⟩ | hk
  · exact ⟨vri, (wsz (p.1.1, (p.1.2.1, p.1.2.2.1))).map _, wzm p.1.1 p.1.2.1 p.1.2.2.1, w11⟩
  cases hk
def G15 : Glob := G14.add 52 wio
theorem G15_ok : GlobOk Try.prog G15 := G14_ok.add ⟨Try.f52, Try.func52, by kernel_rfl, by kernel_rfl⟩ w2j
def vfn : Nat → Option LoopSpec
  | 0 => some ⟨[0, 3, 4], [], fun vals st k => vam [.lst tWrite, .own 0, .int .i64] [.arr tWrite] vals st (fun p q => vah vjm Fuel (p.1, p.2.2.1, q.1) (fun z => k (.exit 0) [.lst tWrite z.1, .own 0, .int .i64 z.2.1] [.arr tWrite z.2.2]))
      (none)⟩
  | _ => none
def v7r : q18T → List AV := (fun x => [.lst tWrite x.1, .own 0, .int .i64 x.2.1])
def v93 : q18T → St := (fun x => [.arr tWrite x.2.2])
def v32 : q18T → Out × List AV × St := (fun z => ((.exit 0), [.lst tWrite z.1, .own 0, .int .i64 z.2.1], [.arr tWrite z.2.2]))
theorem wri (x : q18T) : exec G15 ⟨0, 23, vfn⟩ (vad Try.f69 0) (va5 ⟨0, 23, vfn⟩ [0, 3, 4] []) (va3 (va0 23) [0, 3, 4] (v7r x)) (v93 x) = vjm x (Sum.elim (fun y => some ⟨.norm, v7r y, v93 y⟩) fun z => some ⟨(v32 z).1, (v32 z).2.1, (v32 z).2.2⟩) := by
  kernel_rfl
theorem wpc : ∀ sp, (vfn 0) = some sp → va8 G15 ⟨0, 23, vfn⟩ sp (vad Try.f69 0) := by
  intro sp hsp vals st k r h
  cases hsp
  dsimp only at h
  rcases vai h with ⟨p, q, rfl, rfl, h⟩ | h
  · exact vaq wbv v7r v93 v32 (fun z => by (intro h; cases h)) wri Fuel (p.1, p.2.2.1, q.1) _ k r (fun z => rfl) h
  cases h
theorem wx2 (a0 : (List vaj)) : var G15 vfn Try.f69 [.lst tWrite a0] [] = vvl a0 (fun (y : (List vaj)) => some ⟨.ret, [.own 0], [.arr tWrite y]⟩) := by rw [wkz]; kernel_rfl
theorem w3w : vao G15 ⟨0, 23, vfn⟩ (Try.f69.body.getD .skip) :=
  vaf (ids := [0]) (by kernel_rfl) (by kernel_rfl) ⟨wpc, trivial⟩
theorem w1n : val Try.prog 69 wj5 := by
  refine told G15_ok follows Try.func69 (c := Try.f69.body.getD .skip) (by kernel_rfl) ?_
  intro args s k r hk
  unfold wj5 at hk
  rcases vag hk with ⟨p, q, rfl, rfl⟩ | hk
  · exact ⟨vfn, (wud p.1).map _, wx2 p.1, w3w⟩
  cases hk
def G16 : Glob := G15.add 69 wj5
theorem G16_ok : GlobOk Try.prog G16 := G15_ok.add ⟨Try.f69, Try.func69, by kernel_rfl, by kernel_rfl⟩ w1n
def vrl : Nat → Option LoopSpec
  | _ => none
theorem wzp (a0 : Int) (a1 : Int) (a2 : Int) (a3 : Int) (a4 : (List van)) (a5 : (List vaj)) (a6 : Bool) (a7 : ByteArray) : var G16 vrl Try.f13 [.agg [.int .i64 a0, .int .i64 a1, .int .i64 a2, .int .i64 a3, .lst tRange a4, .lst tWrite a5, .bool a6, .str a7]] [] = vt1 (a0, (a1, (a2, (a3, (a4, (a5, (a6, a7))))))) (fun (y : q47T) => some ⟨.ret, [.agg [.int .i64 y.1, .int .i64 y.2.1, .int .i64 y.2.2.1, .int .i64 y.2.2.2.1, .own 0, .own 1, .bool y.2.2.2.2.1, .str y.2.2.2.2.2.1]], [.arr tRange y.2.2.2.2.2.2.1, .arr tWrite y.2.2.2.2.2.2.2]⟩) := by rw [wln]; kernel_rfl
theorem wy8 : vao G16 ⟨0, 31, vrl⟩ (Try.f13.body.getD .skip) :=
  vaf (ids := []) (by kernel_rfl) (by kernel_rfl) trivial
theorem wxe : val Try.prog 13 wh3 := by
  refine told G16_ok follows Try.func13 (c := Try.f13.body.getD .skip) (by kernel_rfl) ?_
  intro args s k r hk
  unfold wh3 at hk
  rcases vag hk with ⟨p, q, rfl, rfl⟩ | hk
  · exact ⟨vrl, (wt7 (p.1.1, (p.1.2.1, (p.1.2.2.1, (p.1.2.2.2.1, (p.1.2.2.2.2.1, (p.1.2.2.2.2.2.1, (p.1.2.2.2.2.2.2.1, p.1.2.2.2.2.2.2.2.1)))))))).map _, wzp p.1.1 p.1.2.1 p.1.2.2.1 p.1.2.2.2.1 p.1.2.2.2.2.1 p.1.2.2.2.2.2.1 p.1.2.2.2.2.2.2.1 p.1.2.2.2.2.2.2.2.1, wy8⟩
  cases hk
def G17 : Glob := G16.add 13 wh3
theorem G17_ok : GlobOk Try.prog G17 := G16_ok.add ⟨Try.f13, Try.func13, by kernel_rfl, by kernel_rfl⟩ wxe
def vex : Nat → Option LoopSpec
  | 0 => some ⟨[0, 3, 4], [], fun vals st k => vam [.lst tTxn, .own 0, .int .i64] [.dep tTxn 0] vals st (fun p q => vah vks Fuel (p.1, p.2.2.1, q.1) (fun z => k (.exit 0) [.lst tTxn z.1, .own 0, .int .i64 z.2.1] [.dep tTxn z.2.2 0]))
      (none)⟩
  | _ => none
def v9v : q6T → List AV := (fun x => [.lst tTxn x.1, .own 0, .int .i64 x.2.1])
def v6m : q6T → St := (fun x => [.dep tTxn x.2.2 0])
def v2t : q6T → Out × List AV × St := (fun z => ((.exit 0), [.lst tTxn z.1, .own 0, .int .i64 z.2.1], [.dep tTxn z.2.2 0]))
theorem wrm (x : q6T) : exec G17 ⟨0, 23, vex⟩ (vad Try.f131 0) (va5 ⟨0, 23, vex⟩ [0, 3, 4] []) (va3 (va0 23) [0, 3, 4] (v9v x)) (v6m x) = vks x (Sum.elim (fun y => some ⟨.norm, v9v y, v6m y⟩) fun z => some ⟨(v2t z).1, (v2t z).2.1, (v2t z).2.2⟩) := by
  kernel_rfl
theorem wsb : ∀ sp, (vex 0) = some sp → va8 G17 ⟨0, 23, vex⟩ sp (vad Try.f131 0) := by
  intro sp hsp vals st k r h
  cases hsp
  dsimp only at h
  rcases vai h with ⟨p, q, rfl, rfl, h⟩ | h
  · exact vaq wdh v9v v6m v2t (fun z => by (intro h; cases h)) wrm Fuel (p.1, p.2.2.1, q.1) _ k r (fun z => rfl) h
  cases h
theorem w0z (a0 : (List dTxn)) : var G17 vex Try.f131 [.lst tTxn a0] [] = vq0 a0 (fun (y : (List dTxn)) => some ⟨.ret, [.own 0], [.dep tTxn y 0]⟩) := by rw [wlr]; kernel_rfl
theorem wyj : vao G17 ⟨0, 23, vex⟩ (Try.f131.body.getD .skip) :=
  vaf (ids := [0]) (by kernel_rfl) (by kernel_rfl) ⟨wsb, trivial⟩
theorem wy6 : val Try.prog 131 wii := by
  refine told G17_ok follows Try.func131 (c := Try.f131.body.getD .skip) (by kernel_rfl) ?_
  intro args s k r hk
  unfold wii at hk
  rcases vag hk with ⟨p, q, rfl, rfl⟩ | hk
  · exact ⟨vex, (wbn p.1).map _, w0z p.1, wyj⟩
  cases hk
def G18 : Glob := G17.add 131 wii
theorem G18_ok : GlobOk Try.prog G18 := G17_ok.add ⟨Try.f131, Try.func131, by kernel_rfl, by kernel_rfl⟩ wy6
def vs5 : Nat → Option LoopSpec
  | _ => none
theorem wvx (a0 : (List vac)) (a1 : (List dTxn)) (a2 : (List dTxn)) (a3 : Int) (a4 : Int) : var G18 vs5 Try.f61 [.agg [.lst tVersion a0, .lst tTxn a1, .lst tTxn a2, .int .i64 a3, .int .i64 a4]] [] = vw1 (a0, (a1, (a2, (a3, a4)))) (fun (y : q45T) => some ⟨.ret, [.agg [.own 0, .own 1, .own 2, .int .i64 y.1, .int .i64 y.2.1]], [.arr tVersion y.2.2.1, .dep tTxn y.2.2.2.1 0, .dep tTxn y.2.2.2.2 0]⟩) := by rw [wk0]; kernel_rfl
theorem w1u : vao G18 ⟨0, 23, vs5⟩ (Try.f61.body.getD .skip) :=
  vaf (ids := []) (by kernel_rfl) (by kernel_rfl) trivial
theorem w28 : val Try.prog 61 wfu := by
  refine told G18_ok follows Try.func61 (c := Try.f61.body.getD .skip) (by kernel_rfl) ?_
  intro args s k r hk
  unfold wfu at hk
  rcases vag hk with ⟨p, q, rfl, rfl⟩ | hk
  · exact ⟨vs5, (wue (p.1.1, (p.1.2.1, (p.1.2.2.1, (p.1.2.2.2.1, p.1.2.2.2.2.1))))).map _, wvx p.1.1 p.1.2.1 p.1.2.2.1 p.1.2.2.2.1 p.1.2.2.2.2.1, w1u⟩
  cases hk
def G19 : Glob := G18.add 61 wfu
theorem G19_ok : GlobOk Try.prog G19 := G18_ok.add ⟨Try.f61, Try.func61, by kernel_rfl, by kernel_rfl⟩ w28
def vr3 : Nat → Option LoopSpec
  | _ => none
theorem w2i (a0 : (List vac)) (a1 : (List dTxn)) (a2 : (List dTxn)) (a3 : Int) (a4 : Int) (a5 : (List dTxn)) : var G19 vr3 Try.f51 [.agg [.lst tVersion a0, .lst tTxn a1, .lst tTxn a2, .int .i64 a3, .int .i64 a4, .lst tTxn a5]] [] = via ((a0, (a1, (a2, (a3, a4)))), a5) (fun (y : q42T) => some ⟨.ret, [.agg [.own 0, .own 1, .own 2, .int .i64 y.1, .int .i64 y.2.1, .own 3]], [.arr tVersion y.2.2.1, .dep tTxn y.2.2.2.1 0, .dep tTxn y.2.2.2.2.1 0, .dep tTxn y.2.2.2.2.2 0]⟩) := by rw [wj7]; kernel_rfl
theorem wxh : vao G19 ⟨0, 13, vr3⟩ (Try.f51.body.getD .skip) :=
  vaf (ids := []) (by kernel_rfl) (by kernel_rfl) trivial
theorem w1r : val Try.prog 51 wj3 := by
  refine told G19_ok follows Try.func51 (c := Try.f51.body.getD .skip) (by kernel_rfl) ?_
  intro args s k r hk
  unfold wj3 at hk
  rcases vag hk with ⟨p, q, rfl, rfl⟩ | hk
  · exact ⟨vr3, (v5k ((p.1.1, (p.1.2.1, (p.1.2.2.1, (p.1.2.2.2.1, p.1.2.2.2.2.1)))), p.1.2.2.2.2.2.1)).map _, w2i p.1.1 p.1.2.1 p.1.2.2.1 p.1.2.2.2.1 p.1.2.2.2.2.1 p.1.2.2.2.2.2.1, wxh⟩
  cases hk
def G20 : Glob := G19.add 51 wj3
theorem G20_ok : GlobOk Try.prog G20 := G19_ok.add ⟨Try.f51, Try.func51, by kernel_rfl, by kernel_rfl⟩ w1r
def vsf : Nat → Option LoopSpec
  | _ => none
theorem wwf (a0 : Int) (a1 : Int) (a2 : Int) (a3 : Int) (a4 : (List van)) (a5 : (List vaj)) (a6 : Bool) (a7 : ByteArray) : var G20.shallow vsf Try.f108 [.agg [.int .i64 a0, .int .i64 a1, .int .i64 a2, .int .i64 a3, .lst tRange a4, .lst tWrite a5, .bool a6, .str a7]] [] = vwc (a0, (a1, (a2, (a3, (a4, (a5, (a6, a7))))))) (fun (y : q47T) => some ⟨.ret, [.agg [.int .i64 y.1, .int .i64 y.2.1, .int .i64 y.2.2.1, .int .i64 y.2.2.2.1, .own 0, .own 1, .bool y.2.2.2.2.1, .str y.2.2.2.2.2.1]], [.arr tRange y.2.2.2.2.2.2.1, .arr tWrite y.2.2.2.2.2.2.2]⟩) := by rw [wgo]; kernel_rfl
theorem wyb : vao G20.shallow ⟨0, 16, vsf⟩ (Try.f108.body.getD .skip) :=
  vaf (ids := []) (by kernel_rfl) (by kernel_rfl) trivial
theorem wzv : val Try.prog 108 wkk := by
  refine told G20_ok.shallow follows Try.func108 (c := Try.f108.body.getD .skip) (by kernel_rfl) ?_
  intro args s k r hk
  unfold wkk at hk
  rcases vag hk with ⟨p, q, rfl, rfl⟩ | hk
  · exact ⟨vsf, (ws7 (p.1.1, (p.1.2.1, (p.1.2.2.1, (p.1.2.2.2.1, (p.1.2.2.2.2.1, (p.1.2.2.2.2.2.1, (p.1.2.2.2.2.2.2.1, p.1.2.2.2.2.2.2.2.1)))))))).map _, wwf p.1.1 p.1.2.1 p.1.2.2.1 p.1.2.2.2.1 p.1.2.2.2.2.1 p.1.2.2.2.2.2.1 p.1.2.2.2.2.2.2.1 p.1.2.2.2.2.2.2.2.1, wyb⟩
  cases hk
def G21 : Glob := G20.add 108 wkk
theorem G21_ok : GlobOk Try.prog G21 := G20_ok.add ⟨Try.f108, Try.func108, by kernel_rfl, by kernel_rfl⟩ wzv
def vfs : Nat → Option LoopSpec
  | 0 => some ⟨[0, 3, 4], [], fun vals st k => vam [.lst tTxn, .own 0, .int .i64] [.arr tTxn] vals st (fun p q => vah vlb Fuel (p.1, p.2.2.1, q.1) (fun z => k (.exit 0) [.lst tTxn z.1, .own 0, .int .i64 z.2.1] [.arr tTxn z.2.2]))
      (none)⟩
  | _ => none
def v8l : q6T → List AV := (fun x => [.lst tTxn x.1, .own 0, .int .i64 x.2.1])
def v66 : q6T → St := (fun x => [.arr tTxn x.2.2])
def v15 : q6T → Out × List AV × St := (fun z => ((.exit 0), [.lst tTxn z.1, .own 0, .int .i64 z.2.1], [.arr tTxn z.2.2]))
theorem woq (x : q6T) : exec G21.shallow ⟨0, 21, vfs⟩ (vad Try.f188 0) (va5 ⟨0, 21, vfs⟩ [0, 3, 4] []) (va3 (va0 21) [0, 3, 4] (v8l x)) (v66 x) = vlb x (Sum.elim (fun y => some ⟨.norm, v8l y, v66 y⟩) fun z => some ⟨(v15 z).1, (v15 z).2.1, (v15 z).2.2⟩) := by
  kernel_rfl
theorem wob : ∀ sp, (vfs 0) = some sp → va8 G21.shallow ⟨0, 21, vfs⟩ sp (vad Try.f188 0) := by
  intro sp hsp vals st k r h
  cases hsp
  dsimp only at h
  rcases vai h with ⟨p, q, rfl, rfl, h⟩ | h
  · exact vaq wcg v8l v66 v15 (fun z => by (intro h; cases h)) woq Fuel (p.1, p.2.2.1, q.1) _ k r (fun z => rfl) h
  cases h
theorem w2n (a0 : (List dTxn)) : var G21.shallow vfs Try.f188 [.lst tTxn a0] [] = vqt a0 (fun (y : (List dTxn)) => some ⟨.ret, [.own 0], [.arr tTxn y]⟩) := by rw [wjy]; kernel_rfl
theorem wxr : vao G21.shallow ⟨0, 21, vfs⟩ (Try.f188.body.getD .skip) :=
  vaf (ids := [0]) (by kernel_rfl) (by kernel_rfl) ⟨wob, trivial⟩
theorem wzf : val Try.prog 188 whw := by
  refine told G21_ok.shallow follows Try.func188 (c := Try.f188.body.getD .skip) (by kernel_rfl) ?_
  intro args s k r hk
  unfold whw at hk
  rcases vag hk with ⟨p, q, rfl, rfl⟩ | hk
  · exact ⟨vfs, (wbx p.1).map _, w2n p.1, wxr⟩
  cases hk
def G22 : Glob := G21.add 188 whw
theorem G22_ok : GlobOk Try.prog G22 := G21_ok.add ⟨Try.f188, Try.func188, by kernel_rfl, by kernel_rfl⟩ wzf
def vsw : Nat → Option LoopSpec
  | 1000001 => some ⟨[2], [], fun _ _ _ => none⟩
  | _ => none
theorem wwo (a0 : (List vac)) (a1 : (List dTxn)) (a2 : (List dTxn)) (a3 : Int) (a4 : Int) : var G22.shallow vsw Try.f187 [.agg [.lst tVersion a0, .lst tTxn a1, .lst tTxn a2, .int .i64 a3, .int .i64 a4]] [] = v4s (a0, (a1, (a2, (a3, a4)))) (fun (y : q45T) => some ⟨.ret, [.agg [.own 0, .own 1, .own 2, .int .i64 y.1, .int .i64 y.2.1]], [.arr tVersion y.2.2.1, .arr tTxn y.2.2.2.1, .arr tTxn y.2.2.2.2]⟩) := by rw [wia]; kernel_rfl
theorem w1j : vao G22.shallow ⟨0, 18, vsw⟩ (Try.f187.body.getD .skip) :=
  vaf (ids := []) (by kernel_rfl) (by kernel_rfl) trivial
theorem wzg : val Try.prog 187 why := by
  refine told G22_ok.shallow follows Try.func187 (c := Try.f187.body.getD .skip) (by kernel_rfl) ?_
  intro args s k r hk
  unfold why at hk
  rcases vag hk with ⟨p, q, rfl, rfl⟩ | hk
  · exact ⟨vsw, (wsy (p.1.1, (p.1.2.1, (p.1.2.2.1, (p.1.2.2.2.1, p.1.2.2.2.2.1))))).map _, wwo p.1.1 p.1.2.1 p.1.2.2.1 p.1.2.2.2.1 p.1.2.2.2.2.1, w1j⟩
  cases hk
def G23 : Glob := G22.add 187 why
theorem G23_ok : GlobOk Try.prog G23 := G22_ok.add ⟨Try.f187, Try.func187, by kernel_rfl, by kernel_rfl⟩ wzg
def vr2 : Nat → Option LoopSpec
  | 2000001 => some ⟨[0, 2, 6, 8, 5, 11, 12, 14], [], fun _ _ _ => none⟩
  | _ => none
theorem w16 (a0 : (List vac)) (a1 : (List dTxn)) (a2 : (List dTxn)) (a3 : Int) (a4 : Int) (a5 : (List dTxn)) : var G23.shallow vr2 Try.f129 [.agg [.lst tVersion a0, .lst tTxn a1, .lst tTxn a2, .int .i64 a3, .int .i64 a4, .lst tTxn a5]] [] = v0w ((a0, (a1, (a2, (a3, a4)))), a5) (fun (y : q42T) => some ⟨.ret, [.agg [.own 0, .own 1, .own 2, .int .i64 y.1, .int .i64 y.2.1, .own 3]], [.arr tVersion y.2.2.1, .arr tTxn y.2.2.2.1, .arr tTxn y.2.2.2.2.1, .arr tTxn y.2.2.2.2.2]⟩) := by rw [wg1]; kernel_rfl
theorem wwk : vao G23.shallow ⟨0, 10, vr2⟩ (Try.f129.body.getD .skip) :=
  vaf (ids := []) (by kernel_rfl) (by kernel_rfl) trivial
theorem w0j : val Try.prog 129 wjl := by
  refine told G23_ok.shallow follows Try.func129 (c := Try.f129.body.getD .skip) (by kernel_rfl) ?_
  intro args s k r hk
  unfold wjl at hk
  rcases vag hk with ⟨p, q, rfl, rfl⟩ | hk
  · exact ⟨vr2, (wuc ((p.1.1, (p.1.2.1, (p.1.2.2.1, (p.1.2.2.2.1, p.1.2.2.2.2.1)))), p.1.2.2.2.2.2.1)).map _, w16 p.1.1 p.1.2.1 p.1.2.2.1 p.1.2.2.2.1 p.1.2.2.2.2.1 p.1.2.2.2.2.2.1, wwk⟩
  cases hk
def G24 : Glob := G23.add 129 wjl
theorem G24_ok : GlobOk Try.prog G24 := G23_ok.add ⟨Try.f129, Try.func129, by kernel_rfl, by kernel_rfl⟩ w0j
def vs3 : Nat → Option LoopSpec
  | _ => none
theorem wxd (a0 : Int) (a1 : Int) (a2 : Int) : var G24.shallow vs3 Try.f122 [.int .i64 a0, .int .i64 a1, .int .i64 a2] [] = vdg a0 a1 a2 (fun (y : Bool) => some ⟨.ret, [.bool y], []⟩) := by rw [wk3]; kernel_rfl
theorem wxz : vao G24.shallow ⟨0, 15, vs3⟩ (Try.f122.body.getD .skip) :=
  vaf (ids := []) (by kernel_rfl) (by kernel_rfl) trivial
theorem w09 : val Try.prog 122 wge := by
  refine told G24_ok.shallow follows Try.func122 (c := Try.f122.body.getD .skip) (by kernel_rfl) ?_
  intro args s k r hk
  unfold wge at hk
  rcases vag hk with ⟨p, q, rfl, rfl⟩ | hk
  · exact ⟨vs3, (vov p.1 p.2.1 p.2.2.1).map _, wxd p.1 p.2.1 p.2.2.1, wxz⟩
  cases hk
def G25 : Glob := G24.add 122 wge
theorem G25_ok : GlobOk Try.prog G25 := G24_ok.add ⟨Try.f122, Try.func122, by kernel_rfl, by kernel_rfl⟩ w09
def vey : Nat → Option LoopSpec
  | 0 => some ⟨[0, 2, 3], [], fun vals st k => vam [.str, .bool, .int .i64] [] vals st (fun p q => vah vj0 Fuel (p.1, p.2.1, p.2.2.1) (Sum.elim (fun z => k .ret [.str z.1, .bool z.2.1, .int .i64 z.2.2] []) (fun z => k (.exit 0) [.str z.1, .bool z.2.1, .int .i64 z.2.2] [])))
      (none)⟩
  | _ => none
def v9d : (ByteArray × Bool × Int) → List AV := (fun x => [.str x.1, .bool x.2.1, .int .i64 x.2.2])
def v9k : (ByteArray × Bool × Int) → St := (fun x => [])
def v04 : ((ByteArray × Bool × Int) ⊕ (ByteArray × Bool × Int)) → Out × List AV × St := (Sum.elim (fun z => (.ret, [.str z.1, .bool z.2.1, .int .i64 z.2.2], [])) (fun z => ((.exit 0), [.str z.1, .bool z.2.1, .int .i64 z.2.2], [])))
theorem woz (x : (ByteArray × Bool × Int)) : exec G25.shallow ⟨0, 23, vey⟩ (vad Try.f123 0) (va5 ⟨0, 23, vey⟩ [0, 2, 3] []) (va3 (va0 23) [0, 2, 3] (v9d x)) (v9k x) = vj0 x (Sum.elim (fun y => some ⟨.norm, v9d y, v9k y⟩) fun z => some ⟨(v04 z).1, (v04 z).2.1, (v04 z).2.2⟩) := by
  kernel_rfl
theorem woh : ∀ sp, (vey 0) = some sp → va8 G25.shallow ⟨0, 23, vey⟩ sp (vad Try.f123 0) := by
  intro sp hsp vals st k r h
  cases hsp
  dsimp only at h
  rcases vai h with ⟨p, q, rfl, rfl, h⟩ | h
  · exact vaq wcw v9d v9k v04 (fun z => by rcases z with z | z <;> (intro h; cases h)) woz Fuel (p.1, p.2.1, p.2.2.1) _ k r (fun z => by rcases z with z | z <;> rfl) h
  cases h
theorem wzx (a0 : ByteArray) : var G25.shallow vey Try.f123 [.str a0] [] = vi1 a0 (fun (y : Bool) => some ⟨.ret, [.bool y], []⟩) := by rw [wja]; kernel_rfl
theorem wzd : vao G25.shallow ⟨0, 23, vey⟩ (Try.f123.body.getD .skip) :=
  vaf (ids := [0]) (by kernel_rfl) (by kernel_rfl) ⟨woh, trivial⟩
theorem w1z : val Try.prog 123 wji := by
  refine told G25_ok.shallow follows Try.func123 (c := Try.f123.body.getD .skip) (by kernel_rfl) ?_
  intro args s k r hk
  unfold wji at hk
  rcases vag hk with ⟨p, q, rfl, rfl⟩ | hk
  · exact ⟨vey, (v0u p.1).map _, wzx p.1, wzd⟩
  cases hk
def G26 : Glob := G25.add 123 wji
theorem G26_ok : GlobOk Try.prog G26 := G25_ok.add ⟨Try.f123, Try.func123, by kernel_rfl, by kernel_rfl⟩ w1z
def vcw : Nat → Option LoopSpec
  | 5000007 => some ⟨[0, 2, 3, 4], [], fun vals st k => vam [.lst tVersion, .bool, .int .i64, .bp 0 0] [.box [.str, .str, .bool, .int .i64]] vals st (fun p q => vcj (p.1, p.2.1, p.2.2.1, q.1.1, q.1.2.1, q.1.2.2.1, q.1.2.2.2.1) (Sum.elim (fun z => k .ret [.lst tVersion z.1, .bool z.2.1, .int .i64 z.2.2.1, .bp 0 0] [.box [.str z.2.2.2.1, .str z.2.2.2.2.1, .bool z.2.2.2.2.2.1, .int .i64 z.2.2.2.2.2.2]]) (fun z => k .norm [.lst tVersion z.1, .bool z.2.1, .int .i64 z.2.2.1, .bp 0 0] [.box [.str z.2.2.2.1, .str z.2.2.2.2.1, .bool z.2.2.2.2.2.1, .int .i64 z.2.2.2.2.2.2]])))
      (none)⟩
  | 0 => some ⟨[0, 2, 3], [], fun vals st k => vam [.lst tVersion, .bool, .int .i64] [] vals st (fun p q => vah vk2 Fuel (p.1, p.2.1, p.2.2.1) (Sum.elim (fun z => k .ret [.lst tVersion z.1, .bool z.2.1, .int .i64 z.2.2] []) (fun z => k (.exit 0) [.lst tVersion z.1, .bool z.2.1, .int .i64 z.2.2] [])))
      (none)⟩
  | 2000007 => some ⟨[0, 2, 4, 6, 8, 10, 12, 14, 16, 18, 20, 22, 24, 26, 28, 30, 32, 34, 36, 38, 40, 42, 44, 46, 48, 50, 52, 54, 56, 58, 60, 62, 64, 66, 68], [], fun _ _ _ => none⟩
  | _ => none
def vox : q13T → List AV := (fun x => [.lst tVersion x.1, .bool x.2.1, .int .i64 x.2.2.1, .bp 0 0])
def voe : q13T → St := (fun x => [.box [.str x.2.2.2.1, .str x.2.2.2.2.1, .bool x.2.2.2.2.2.1, .int .i64 x.2.2.2.2.2.2]])
def vf1 : (q13T ⊕ q13T) → Out × List AV × St := (Sum.elim (fun z => (.ret, [.lst tVersion z.1, .bool z.2.1, .int .i64 z.2.2.1, .bp 0 0], [.box [.str z.2.2.2.1, .str z.2.2.2.2.1, .bool z.2.2.2.2.2.1, .int .i64 z.2.2.2.2.2.2]])) (fun z => (.norm, [.lst tVersion z.1, .bool z.2.1, .int .i64 z.2.2.1, .bp 0 0], [.box [.str z.2.2.2.1, .str z.2.2.2.2.1, .bool z.2.2.2.2.2.1, .int .i64 z.2.2.2.2.2.2]])))
theorem vxg (x : q13T) : exec G26.shallow ⟨0, 78, vcw⟩ (vad Try.f217 5000007) (va5 ⟨0, 78, vcw⟩ [0, 2, 3, 4] []) (va3 (va0 78) [0, 2, 3, 4] (vox x)) (voe x) = vcj x (fun z => some ⟨(vf1 z).1, (vf1 z).2.1, (vf1 z).2.2⟩) := by
  kernel_rfl
theorem vxs : ∀ sp, (vcw 5000007) = some sp → vg5 G26.shallow ⟨0, 78, vcw⟩ sp (vad Try.f217 5000007) := by
  intro sp hsp vals st k r h
  cases hsp
  dsimp only at h
  rcases vai h with ⟨p, q, rfl, rfl, h⟩ | h
  · exact vbu vis vox voe vf1 vxg (p.1, p.2.1, p.2.2.1, q.1.1, q.1.2.1, q.1.2.2.1, q.1.2.2.2.1) _ k r (fun z => by rcases z with z | z <;> rfl) h
  cases h
def v7k : ((List vac) × Bool × Int) → List AV := (fun x => [.lst tVersion x.1, .bool x.2.1, .int .i64 x.2.2])
def v7l : ((List vac) × Bool × Int) → St := (fun x => [])
def v1i : (((List vac) × Bool × Int) ⊕ ((List vac) × Bool × Int)) → Out × List AV × St := (Sum.elim (fun z => (.ret, [.lst tVersion z.1, .bool z.2.1, .int .i64 z.2.2], [])) (fun z => ((.exit 0), [.lst tVersion z.1, .bool z.2.1, .int .i64 z.2.2], [])))
theorem wrl (x : ((List vac) × Bool × Int)) : exec G26.shallow ⟨0, 78, vcw⟩ (vad Try.f217 0) (va5 ⟨0, 78, vcw⟩ [0, 2, 3] []) (va3 (va0 78) [0, 2, 3] (v7k x)) (v7l x) = vk2 x (Sum.elim (fun y => some ⟨.norm, v7k y, v7l y⟩) fun z => some ⟨(v1i z).1, (v1i z).2.1, (v1i z).2.2⟩) := by
  kernel_rfl
theorem wrs : ∀ sp, (vcw 0) = some sp → va8 G26.shallow ⟨0, 78, vcw⟩ sp (vad Try.f217 0) := by
  intro sp hsp vals st k r h
  cases hsp
  dsimp only at h
  rcases vai h with ⟨p, q, rfl, rfl, h⟩ | h
  · exact vaq wai v7k v7l v1i (fun z => by rcases z with z | z <;> (intro h; cases h)) wrl Fuel (p.1, p.2.1, p.2.2.1) _ k r (fun z => by rcases z with z | z <;> rfl) h
  cases h
theorem wzk (a0 : (List vac)) : var G26.shallow vcw Try.f217 [.lst tVersion a0] [] = vty a0 (fun (y : Bool) => some ⟨.ret, [.bool y], []⟩) := by rw [wj0]; kernel_rfl
theorem wyl : vao G26.shallow ⟨0, 78, vcw⟩ (Try.f217.body.getD .skip) :=
  vaf (ids := [5000007, 0]) (by kernel_rfl) (by kernel_rfl) ⟨vxs, ⟨wrs, trivial⟩⟩
theorem w1b : val Try.prog 217 wl6 := by
  refine told G26_ok.shallow follows Try.func217 (c := Try.f217.body.getD .skip) (by kernel_rfl) ?_
  intro args s k r hk
  unfold wl6 at hk
  rcases vag hk with ⟨p, q, rfl, rfl⟩ | hk
  · exact ⟨vcw, (wtv p.1).map _, wzk p.1, wyl⟩
  cases hk
def G27 : Glob := G26.add 217 wl6
theorem G27_ok : GlobOk Try.prog G27 := G26_ok.add ⟨Try.f217, Try.func217, by kernel_rfl, by kernel_rfl⟩ w1b
def vs4 : Nat → Option LoopSpec
  | _ => none
theorem wwa (a0 : ByteArray) (a1 : ByteArray) (a2 : Bool) : var G27.shallow vs4 Try.f114 [.agg [.str a0, .str a1, .bool a2]] [] = vw2 (a0, (a1, a2)) (fun (y : Bool) => some ⟨.ret, [.bool y], []⟩) := by rw [wi1]; kernel_rfl
theorem wv5 : vao G27.shallow ⟨0, 22, vs4⟩ (Try.f114.body.getD .skip) :=
  vaf (ids := []) (by kernel_rfl) (by kernel_rfl) trivial
theorem wy9 : val Try.prog 114 wju := by
  refine told G27_ok.shallow follows Try.func114 (c := Try.f114.body.getD .skip) (by kernel_rfl) ?_
  intro args s k r hk
  unfold wju at hk
  rcases vag hk with ⟨p, q, rfl, rfl⟩ | hk
  · exact ⟨vs4, (wsj (p.1.1, (p.1.2.1, p.1.2.2.1))).map _, wwa p.1.1 p.1.2.1 p.1.2.2.1, wv5⟩
  cases hk
def G28 : Glob := G27.add 114 wju
theorem G28_ok : GlobOk Try.prog G28 := G27_ok.add ⟨Try.f114, Try.func114, by kernel_rfl, by kernel_rfl⟩ wy9
def vfy : Nat → Option LoopSpec
  | 0 => some ⟨[0, 2, 3], [], fun vals st k => vam [.lst tWrite, .bool, .int .i64] [] vals st (fun p q => vah vjf Fuel (p.1, p.2.1, p.2.2.1) (Sum.elim (fun z => k .ret [.lst tWrite z.1, .bool z.2.1, .int .i64 z.2.2] []) (fun z => k (.exit 0) [.lst tWrite z.1, .bool z.2.1, .int .i64 z.2.2] [])))
      (none)⟩
  | 2000004 => some ⟨[0, 2, 4, 6, 9, 10, 12, 14, 16, 18, 20, 22, 24, 26, 28, 30, 32, 34, 36, 38, 40, 42, 44, 46], [], fun _ _ _ => none⟩
  | _ => none
def v6o : ((List vaj) × Bool × Int) → List AV := (fun x => [.lst tWrite x.1, .bool x.2.1, .int .i64 x.2.2])
def v78 : ((List vaj) × Bool × Int) → St := (fun x => [])
def v05 : (((List vaj) × Bool × Int) ⊕ ((List vaj) × Bool × Int)) → Out × List AV × St := (Sum.elim (fun z => (.ret, [.lst tWrite z.1, .bool z.2.1, .int .i64 z.2.2], [])) (fun z => ((.exit 0), [.lst tWrite z.1, .bool z.2.1, .int .i64 z.2.2], [])))
theorem wpr (x : ((List vaj) × Bool × Int)) : exec G28.shallow ⟨0, 37, vfy⟩ (vad Try.f116 0) (va5 ⟨0, 37, vfy⟩ [0, 2, 3] []) (va3 (va0 37) [0, 2, 3] (v6o x)) (v78 x) = vjf x (Sum.elim (fun y => some ⟨.norm, v6o y, v78 y⟩) fun z => some ⟨(v05 z).1, (v05 z).2.1, (v05 z).2.2⟩) := by
  kernel_rfl
theorem wnz : ∀ sp, (vfy 0) = some sp → va8 G28.shallow ⟨0, 37, vfy⟩ sp (vad Try.f116 0) := by
  intro sp hsp vals st k r h
  cases hsp
  dsimp only at h
  rcases vai h with ⟨p, q, rfl, rfl, h⟩ | h
  · exact vaq wdr v6o v78 v05 (fun z => by rcases z with z | z <;> (intro h; cases h)) wpr Fuel (p.1, p.2.1, p.2.2.1) _ k r (fun z => by rcases z with z | z <;> rfl) h
  cases h
theorem wz6 (a0 : (List vaj)) : var G28.shallow vfy Try.f116 [.lst tWrite a0] [] = vtx a0 (fun (y : Bool) => some ⟨.ret, [.bool y], []⟩) := by rw [wi0]; kernel_rfl
theorem wzq : vao G28.shallow ⟨0, 37, vfy⟩ (Try.f116.body.getD .skip) :=
  vaf (ids := [0]) (by kernel_rfl) (by kernel_rfl) ⟨wnz, trivial⟩
theorem w3g : val Try.prog 116 wgh := by
  refine told G28_ok.shallow follows Try.func116 (c := Try.f116.body.getD .skip) (by kernel_rfl) ?_
  intro args s k r hk
  unfold wgh at hk
  rcases vag hk with ⟨p, q, rfl, rfl⟩ | hk
  · exact ⟨vfy, (wsk p.1).map _, wz6 p.1, wzq⟩
  cases hk
def G29 : Glob := G28.add 116 wgh
theorem G29_ok : GlobOk Try.prog G29 := G28_ok.add ⟨Try.f116, Try.func116, by kernel_rfl, by kernel_rfl⟩ w3g
def vsn : Nat → Option LoopSpec
  | _ => none
theorem wwz (a0 : ByteArray) (a1 : ByteArray) : var G29.shallow vsn Try.f109 [.agg [.str a0, .str a1]] [] = vwj (a0, a1) (fun (y : Bool) => some ⟨.ret, [.bool y], []⟩) := by rw [wgm]; kernel_rfl
theorem w25 : vao G29.shallow ⟨0, 18, vsn⟩ (Try.f109.body.getD .skip) :=
  vaf (ids := []) (by kernel_rfl) (by kernel_rfl) trivial
theorem wzy : val Try.prog 109 wgw := by
  refine told G29_ok.shallow follows Try.func109 (c := Try.f109.body.getD .skip) (by kernel_rfl) ?_
  intro args s k r hk
  unfold wgw at hk
  rcases vag hk with ⟨p, q, rfl, rfl⟩ | hk
  · exact ⟨vsn, (wtk (p.1.1, p.1.2.1)).map _, wwz p.1.1 p.1.2.1, w25⟩
  cases hk
def G30 : Glob := G29.add 109 wgw
theorem G30_ok : GlobOk Try.prog G30 := G29_ok.add ⟨Try.f109, Try.func109, by kernel_rfl, by kernel_rfl⟩ wzy
def vbh : Nat → Option LoopSpec
  | 5000012 => some ⟨[1, 2], [], fun vals st k => vam [.bp 0 0, .bool] [.box [.int .i64, .int .i64, .int .i64, .int .i64, .lst tRange, .lst tWrite, .bool, .str]] vals st (fun p q => vb4 (p.2.1, q.1.1, q.1.2.1, q.1.2.2.1, q.1.2.2.2.1, q.1.2.2.2.2.1, q.1.2.2.2.2.2.1, q.1.2.2.2.2.2.2.1, q.1.2.2.2.2.2.2.2.1) (fun z => k .ret [.bp 0 0, .bool z.1] [.box [.int .i64 z.2.1, .int .i64 z.2.2.1, .int .i64 z.2.2.2.1, .int .i64 z.2.2.2.2.1, .lst tRange z.2.2.2.2.2.1, .lst tWrite z.2.2.2.2.2.2.1, .bool z.2.2.2.2.2.2.2.1, .str z.2.2.2.2.2.2.2.2]]))
      (none)⟩
  | 5000010 => some ⟨[1, 2], [], fun vals st k => vam [.bp 0 0, .bool] [.box [.int .i64, .int .i64, .int .i64, .int .i64, .lst tRange, .lst tWrite, .bool, .str]] vals st (fun p q => vb6 (p.2.1, q.1.1, q.1.2.1, q.1.2.2.1, q.1.2.2.2.1, q.1.2.2.2.2.1, q.1.2.2.2.2.2.1, q.1.2.2.2.2.2.2.1, q.1.2.2.2.2.2.2.2.1) (fun z => k .ret [.bp 0 0, .bool z.1] [.box [.int .i64 z.2.1, .int .i64 z.2.2.1, .int .i64 z.2.2.2.1, .int .i64 z.2.2.2.2.1, .lst tRange z.2.2.2.2.2.1, .lst tWrite z.2.2.2.2.2.2.1, .bool z.2.2.2.2.2.2.2.1, .str z.2.2.2.2.2.2.2.2]]))
      (none)⟩
  | 0 => some ⟨[1, 2, 3], [], fun vals st k => vam [.bp 0 0, .bool, .int .i64] [.box [.int .i64, .int .i64, .int .i64, .int .i64, .lst tRange, .lst tWrite, .bool, .str]] vals st (fun p q => vah vjo Fuel (p.2.1, p.2.2.1, q.1.1, q.1.2.1, q.1.2.2.1, q.1.2.2.2.1, q.1.2.2.2.2.1, q.1.2.2.2.2.2.1, q.1.2.2.2.2.2.2.1, q.1.2.2.2.2.2.2.2.1) (Sum.elim (fun z => k .ret [.bp 0 0, .bool z.1, .int .i64 z.2.1] [.box [.int .i64 z.2.2.1, .int .i64 z.2.2.2.1, .int .i64 z.2.2.2.2.1, .int .i64 z.2.2.2.2.2.1, .lst tRange z.2.2.2.2.2.2.1, .lst tWrite z.2.2.2.2.2.2.2.1, .bool z.2.2.2.2.2.2.2.2.1, .str z.2.2.2.2.2.2.2.2.2]]) (fun z => k (.exit 0) [.bp 0 0, .bool z.1, .int .i64 z.2.1] [.box [.int .i64 z.2.2.1, .int .i64 z.2.2.2.1, .int .i64 z.2.2.2.2.1, .int .i64 z.2.2.2.2.2.1, .lst tRange z.2.2.2.2.2.2.1, .lst tWrite z.2.2.2.2.2.2.2.1, .bool z.2.2.2.2.2.2.2.2.1, .str z.2.2.2.2.2.2.2.2.2]])))
      (none)⟩
  | 5000003 => some ⟨[1, 2], [], fun vals st k => vam [.bp 0 0, .bool] [.box [.int .i64, .int .i64, .int .i64, .int .i64, .lst tRange, .lst tWrite, .bool, .str]] vals st (fun p q => vc2 (p.2.1, q.1.1, q.1.2.1, q.1.2.2.1, q.1.2.2.2.1, q.1.2.2.2.2.1, q.1.2.2.2.2.2.1, q.1.2.2.2.2.2.2.1, q.1.2.2.2.2.2.2.2.1) (fun z => k .ret [.bp 0 0, .bool z.1] [.box [.int .i64 z.2.1, .int .i64 z.2.2.1, .int .i64 z.2.2.2.1, .int .i64 z.2.2.2.2.1, .lst tRange z.2.2.2.2.2.1, .lst tWrite z.2.2.2.2.2.2.1, .bool z.2.2.2.2.2.2.2.1, .str z.2.2.2.2.2.2.2.2]]))
      (none)⟩
  | _ => none
def vow : q36T → List AV := (fun x => [.bp 0 0, .bool x.1])
def vnc : q36T → St := (fun x => [.box [.int .i64 x.2.1, .int .i64 x.2.2.1, .int .i64 x.2.2.2.1, .int .i64 x.2.2.2.2.1, .lst tRange x.2.2.2.2.2.1, .lst tWrite x.2.2.2.2.2.2.1, .bool x.2.2.2.2.2.2.2.1, .str x.2.2.2.2.2.2.2.2]])
def vgs : q36T → Out × List AV × St := (fun z => (.ret, [.bp 0 0, .bool z.1], [.box [.int .i64 z.2.1, .int .i64 z.2.2.1, .int .i64 z.2.2.2.1, .int .i64 z.2.2.2.2.1, .lst tRange z.2.2.2.2.2.1, .lst tWrite z.2.2.2.2.2.2.1, .bool z.2.2.2.2.2.2.2.1, .str z.2.2.2.2.2.2.2.2]]))
theorem vyp (x : q36T) : exec G30.shallow ⟨0, 95, vbh⟩ (vad Try.f44 5000012) (va5 ⟨0, 95, vbh⟩ [1, 2] []) (va3 (va0 95) [1, 2] (vow x)) (vnc x) = vb4 x (fun z => some ⟨(vgs z).1, (vgs z).2.1, (vgs z).2.2⟩) := by
  kernel_rfl
theorem vye : ∀ sp, (vbh 5000012) = some sp → vg5 G30.shallow ⟨0, 95, vbh⟩ sp (vad Try.f44 5000012) := by
  intro sp hsp vals st k r h
  cases hsp
  dsimp only at h
  rcases vai h with ⟨p, q, rfl, rfl, h⟩ | h
  · exact vbu vd2 vow vnc vgs vyp (p.2.1, q.1.1, q.1.2.1, q.1.2.2.1, q.1.2.2.2.1, q.1.2.2.2.2.1, q.1.2.2.2.2.2.1, q.1.2.2.2.2.2.2.1, q.1.2.2.2.2.2.2.2.1) _ k r (fun z => rfl) h
  cases h
def vnn : q36T → List AV := (fun x => [.bp 0 0, .bool x.1])
def vob : q36T → St := (fun x => [.box [.int .i64 x.2.1, .int .i64 x.2.2.1, .int .i64 x.2.2.2.1, .int .i64 x.2.2.2.2.1, .lst tRange x.2.2.2.2.2.1, .lst tWrite x.2.2.2.2.2.2.1, .bool x.2.2.2.2.2.2.2.1, .str x.2.2.2.2.2.2.2.2]])
def vgt : q36T → Out × List AV × St := (fun z => (.ret, [.bp 0 0, .bool z.1], [.box [.int .i64 z.2.1, .int .i64 z.2.2.1, .int .i64 z.2.2.2.1, .int .i64 z.2.2.2.2.1, .lst tRange z.2.2.2.2.2.1, .lst tWrite z.2.2.2.2.2.2.1, .bool z.2.2.2.2.2.2.2.1, .str z.2.2.2.2.2.2.2.2]]))
theorem vya (x : q36T) : exec G30.shallow ⟨0, 95, vbh⟩ (vad Try.f44 5000010) (va5 ⟨0, 95, vbh⟩ [1, 2] []) (va3 (va0 95) [1, 2] (vnn x)) (vob x) = vb6 x (fun z => some ⟨(vgt z).1, (vgt z).2.1, (vgt z).2.2⟩) := by
  kernel_rfl
theorem vx2 : ∀ sp, (vbh 5000010) = some sp → vg5 G30.shallow ⟨0, 95, vbh⟩ sp (vad Try.f44 5000010) := by
  intro sp hsp vals st k r h
  cases hsp
  dsimp only at h
  rcases vai h with ⟨p, q, rfl, rfl, h⟩ | h
  · exact vbu vd6 vnn vob vgt vya (p.2.1, q.1.1, q.1.2.1, q.1.2.2.1, q.1.2.2.2.1, q.1.2.2.2.2.1, q.1.2.2.2.2.2.1, q.1.2.2.2.2.2.2.1, q.1.2.2.2.2.2.2.2.1) _ k r (fun z => rfl) h
  cases h
def v6d : q38T → List AV := (fun x => [.bp 0 0, .bool x.1, .int .i64 x.2.1])
def v7p : q38T → St := (fun x => [.box [.int .i64 x.2.2.1, .int .i64 x.2.2.2.1, .int .i64 x.2.2.2.2.1, .int .i64 x.2.2.2.2.2.1, .lst tRange x.2.2.2.2.2.2.1, .lst tWrite x.2.2.2.2.2.2.2.1, .bool x.2.2.2.2.2.2.2.2.1, .str x.2.2.2.2.2.2.2.2.2]])
def v1l : (q38T ⊕ q38T) → Out × List AV × St := (Sum.elim (fun z => (.ret, [.bp 0 0, .bool z.1, .int .i64 z.2.1], [.box [.int .i64 z.2.2.1, .int .i64 z.2.2.2.1, .int .i64 z.2.2.2.2.1, .int .i64 z.2.2.2.2.2.1, .lst tRange z.2.2.2.2.2.2.1, .lst tWrite z.2.2.2.2.2.2.2.1, .bool z.2.2.2.2.2.2.2.2.1, .str z.2.2.2.2.2.2.2.2.2]])) (fun z => ((.exit 0), [.bp 0 0, .bool z.1, .int .i64 z.2.1], [.box [.int .i64 z.2.2.1, .int .i64 z.2.2.2.1, .int .i64 z.2.2.2.2.1, .int .i64 z.2.2.2.2.2.1, .lst tRange z.2.2.2.2.2.2.1, .lst tWrite z.2.2.2.2.2.2.2.1, .bool z.2.2.2.2.2.2.2.2.1, .str z.2.2.2.2.2.2.2.2.2]])))
theorem wq7 (x : q38T) : exec G30.shallow ⟨0, 95, vbh⟩ (vad Try.f44 0) (va5 ⟨0, 95, vbh⟩ [1, 2, 3] []) (va3 (va0 95) [1, 2, 3] (v6d x)) (v7p x) = vjo x (Sum.elim (fun y => some ⟨.norm, v6d y, v7p y⟩) fun z => some ⟨(v1l z).1, (v1l z).2.1, (v1l z).2.2⟩) := by
  kernel_rfl
theorem wpd : ∀ sp, (vbh 0) = some sp → va8 G30.shallow ⟨0, 95, vbh⟩ sp (vad Try.f44 0) := by
  intro sp hsp vals st k r h
  cases hsp
  dsimp only at h
  rcases vai h with ⟨p, q, rfl, rfl, h⟩ | h
  · exact vaq wbz v6d v7p v1l (fun z => by rcases z with z | z <;> (intro h; cases h)) wq7 Fuel (p.2.1, p.2.2.1, q.1.1, q.1.2.1, q.1.2.2.1, q.1.2.2.2.1, q.1.2.2.2.2.1, q.1.2.2.2.2.2.1, q.1.2.2.2.2.2.2.1, q.1.2.2.2.2.2.2.2.1) _ k r (fun z => by rcases z with z | z <;> rfl) h
  cases h
def vo8 : q36T → List AV := (fun x => [.bp 0 0, .bool x.1])
def vn6 : q36T → St := (fun x => [.box [.int .i64 x.2.1, .int .i64 x.2.2.1, .int .i64 x.2.2.2.1, .int .i64 x.2.2.2.2.1, .lst tRange x.2.2.2.2.2.1, .lst tWrite x.2.2.2.2.2.2.1, .bool x.2.2.2.2.2.2.2.1, .str x.2.2.2.2.2.2.2.2]])
def vgn : q36T → Out × List AV × St := (fun z => (.ret, [.bp 0 0, .bool z.1], [.box [.int .i64 z.2.1, .int .i64 z.2.2.1, .int .i64 z.2.2.2.1, .int .i64 z.2.2.2.2.1, .lst tRange z.2.2.2.2.2.1, .lst tWrite z.2.2.2.2.2.2.1, .bool z.2.2.2.2.2.2.2.1, .str z.2.2.2.2.2.2.2.2]]))
theorem vy0 (x : q36T) : exec G30.shallow ⟨0, 95, vbh⟩ (vad Try.f44 5000003) (va5 ⟨0, 95, vbh⟩ [1, 2] []) (va3 (va0 95) [1, 2] (vo8 x)) (vn6 x) = vc2 x (fun z => some ⟨(vgn z).1, (vgn z).2.1, (vgn z).2.2⟩) := by
  kernel_rfl
theorem vx1 : ∀ sp, (vbh 5000003) = some sp → vg5 G30.shallow ⟨0, 95, vbh⟩ sp (vad Try.f44 5000003) := by
  intro sp hsp vals st k r h
  cases hsp
  dsimp only at h
  rcases vai h with ⟨p, q, rfl, rfl, h⟩ | h
  · exact vbu vnd vo8 vn6 vgn vy0 (p.2.1, q.1.1, q.1.2.1, q.1.2.2.1, q.1.2.2.2.1, q.1.2.2.2.2.1, q.1.2.2.2.2.2.1, q.1.2.2.2.2.2.2.1, q.1.2.2.2.2.2.2.2.1) _ k r (fun z => rfl) h
  cases h
theorem w1v (a0 : Int) (a1 : Int) (a2 : Int) (a3 : Int) (a4 : (List van)) (a5 : (List vaj)) (a6 : Bool) (a7 : ByteArray) : var G30.shallow vbh Try.f44 [.agg [.int .i64 a0, .int .i64 a1, .int .i64 a2, .int .i64 a3, .lst tRange a4, .lst tWrite a5, .bool a6, .str a7]] [] = vlh (a0, (a1, (a2, (a3, (a4, (a5, (a6, a7))))))) (fun (y : Bool) => some ⟨.ret, [.bool y], []⟩) := by rw [whe]; kernel_rfl
theorem w2y : vao G30.shallow ⟨0, 95, vbh⟩ (Try.f44.body.getD .skip) :=
  vaf (ids := [5000012, 5000010, 0, 5000003]) (by kernel_rfl) (by kernel_rfl) ⟨vye, ⟨vx2, ⟨wpd, ⟨vx1, trivial⟩⟩⟩⟩
theorem wzl : val Try.prog 44 whm := by
  refine told G30_ok.shallow follows Try.func44 (c := Try.f44.body.getD .skip) (by kernel_rfl) ?_
  intro args s k r hk
  unfold whm at hk
  rcases vag hk with ⟨p, q, rfl, rfl⟩ | hk
  · exact ⟨vbh, (wby (p.1.1, (p.1.2.1, (p.1.2.2.1, (p.1.2.2.2.1, (p.1.2.2.2.2.1, (p.1.2.2.2.2.2.1, (p.1.2.2.2.2.2.2.1, p.1.2.2.2.2.2.2.2.1)))))))).map _, w1v p.1.1 p.1.2.1 p.1.2.2.1 p.1.2.2.2.1 p.1.2.2.2.2.1 p.1.2.2.2.2.2.1 p.1.2.2.2.2.2.2.1 p.1.2.2.2.2.2.2.2.1, w2y⟩
  cases hk
def G31 : Glob := G30.add 44 whm
theorem G31_ok : GlobOk Try.prog G31 := G30_ok.add ⟨Try.f44, Try.func44, by kernel_rfl, by kernel_rfl⟩ wzl
def vax : Nat → Option LoopSpec
  | 0 => some ⟨[1, 2, 3], [], fun vals st k => vam [.bp 0 0, .bool, .int .i64] [.box [.lst tVersion, .lst tTxn, .lst tTxn, .int .i64, .int .i64]] vals st (fun p q => vah vk0 Fuel (p.2.1, p.2.2.1, q.1.1, q.1.2.1, q.1.2.2.1, q.1.2.2.2.1, q.1.2.2.2.2.1) (Sum.elim (fun z => k .ret [.bp 0 0, .bool z.1, .int .i64 z.2.1] [.box [.lst tVersion z.2.2.1, .lst tTxn z.2.2.2.1, .lst tTxn z.2.2.2.2.1, .int .i64 z.2.2.2.2.2.1, .int .i64 z.2.2.2.2.2.2]]) (fun z => k (.exit 0) [.bp 0 0, .bool z.1, .int .i64 z.2.1] [.box [.lst tVersion z.2.2.1, .lst tTxn z.2.2.2.1, .lst tTxn z.2.2.2.2.1, .int .i64 z.2.2.2.2.2.1, .int .i64 z.2.2.2.2.2.2]])))
      (none)⟩
  | 2 => some ⟨[1, 2, 4, 5], [], fun vals st k => vam [.bp 0 0, .bool, .own 1, .int .i64] [.box [.lst tVersion, .lst tTxn, .lst tTxn, .int .i64, .int .i64], .arr (.int .i64)] vals st (fun p q => vah vkl Fuel (p.2.1, p.2.2.2.1, q.1.1, q.1.2.1, q.1.2.2.1, q.1.2.2.2.1, q.1.2.2.2.2.1, q.2.1) (Sum.elim (fun z => k .ret [.bp 0 0, .bool z.1, .own 1, .int .i64 z.2.1] [.box [.lst tVersion z.2.2.1, .lst tTxn z.2.2.2.1, .lst tTxn z.2.2.2.2.1, .int .i64 z.2.2.2.2.2.1, .int .i64 z.2.2.2.2.2.2.1], .arr (.int .i64) z.2.2.2.2.2.2.2]) (fun z => k (.exit 2) [.bp 0 0, .bool z.1, .own 1, .int .i64 z.2.1] [.box [.lst tVersion z.2.2.1, .lst tTxn z.2.2.2.1, .lst tTxn z.2.2.2.2.1, .int .i64 z.2.2.2.2.2.1, .int .i64 z.2.2.2.2.2.2.1], .arr (.int .i64) z.2.2.2.2.2.2.2])))
      (none)⟩
  | 4 => some ⟨[1, 2, 4, 7], [], fun vals st k => vam [.bp 0 0, .bool, .own 1, .int .i64] [.box [.lst tVersion, .lst tTxn, .lst tTxn, .int .i64, .int .i64], .arr (.int .i64)] vals st (fun p q => vah vki Fuel (p.2.1, p.2.2.2.1, q.1.1, q.1.2.1, q.1.2.2.1, q.1.2.2.2.1, q.1.2.2.2.2.1, q.2.1) (Sum.elim (fun z => k .ret [.bp 0 0, .bool z.1, .own 1, .int .i64 z.2.1] [.box [.lst tVersion z.2.2.1, .lst tTxn z.2.2.2.1, .lst tTxn z.2.2.2.2.1, .int .i64 z.2.2.2.2.2.1, .int .i64 z.2.2.2.2.2.2.1], .arr (.int .i64) z.2.2.2.2.2.2.2]) (fun z => k (.exit 4) [.bp 0 0, .bool z.1, .own 1, .int .i64 z.2.1] [.box [.lst tVersion z.2.2.1, .lst tTxn z.2.2.2.1, .lst tTxn z.2.2.2.2.1, .int .i64 z.2.2.2.2.2.1, .int .i64 z.2.2.2.2.2.2.1], .arr (.int .i64) z.2.2.2.2.2.2.2])))
      (none)⟩
  | 8 => some ⟨[1, 2, 4, 9, 10], [], fun vals st k => vam [.bp 0 0, .bool, .own 1, .int .i64, .int .i64] [.box [.lst tVersion, .lst tTxn, .lst tTxn, .int .i64, .int .i64], .arr (.int .i64)] vals st (fun p q => vah vmj Fuel (p.2.1, p.2.2.2.1, p.2.2.2.2.1, q.1.1, q.1.2.1, q.1.2.2.1, q.1.2.2.2.1, q.1.2.2.2.2.1, q.2.1) (Sum.elim (fun z => k .ret [.bp 0 0, .bool z.1, .own 1, .int .i64 z.2.1, .int .i64 z.2.2.1] [.box [.lst tVersion z.2.2.2.1, .lst tTxn z.2.2.2.2.1, .lst tTxn z.2.2.2.2.2.1, .int .i64 z.2.2.2.2.2.2.1, .int .i64 z.2.2.2.2.2.2.2.1], .arr (.int .i64) z.2.2.2.2.2.2.2.2]) (fun z => k (.exit 8) [.bp 0 0, .bool z.1, .own 1, .int .i64 z.2.1, .int .i64 z.2.2.1] [.box [.lst tVersion z.2.2.2.1, .lst tTxn z.2.2.2.2.1, .lst tTxn z.2.2.2.2.2.1, .int .i64 z.2.2.2.2.2.2.1, .int .i64 z.2.2.2.2.2.2.2.1], .arr (.int .i64) z.2.2.2.2.2.2.2.2])))
      (none)⟩
  | 6 => some ⟨[1, 2, 4, 9], [], fun vals st k => vam [.bp 0 0, .bool, .own 1, .int .i64] [.box [.lst tVersion, .lst tTxn, .lst tTxn, .int .i64, .int .i64], .arr (.int .i64)] vals st (fun p q => vah vj9 Fuel (p.2.1, p.2.2.2.1, q.1.1, q.1.2.1, q.1.2.2.1, q.1.2.2.2.1, q.1.2.2.2.2.1, q.2.1) (Sum.elim (fun z => k (.exit 6) [.bp 0 0, .bool z.1, .own 1, .int .i64 z.2.1] [.box [.lst tVersion z.2.2.1, .lst tTxn z.2.2.2.1, .lst tTxn z.2.2.2.2.1, .int .i64 z.2.2.2.2.2.1, .int .i64 z.2.2.2.2.2.2.1], .arr (.int .i64) z.2.2.2.2.2.2.2]) (fun z => k .ret [.bp 0 0, .bool z.1, .own 1, .int .i64 z.2.1] [.box [.lst tVersion z.2.2.1, .lst tTxn z.2.2.2.1, .lst tTxn z.2.2.2.2.1, .int .i64 z.2.2.2.2.2.1, .int .i64 z.2.2.2.2.2.2.1], .arr (.int .i64) z.2.2.2.2.2.2.2])))
      (none)⟩
  | 5000003 => some ⟨[1, 2], [], fun vals st k => vam [.bp 0 0, .bool] [.box [.lst tVersion, .lst tTxn, .lst tTxn, .int .i64, .int .i64]] vals st (fun p q => vc0 (p.2.1, q.1.1, q.1.2.1, q.1.2.2.1, q.1.2.2.2.1, q.1.2.2.2.2.1) (fun z => k .ret [.bp 0 0, .bool z.1] [.box [.lst tVersion z.2.1, .lst tTxn z.2.2.1, .lst tTxn z.2.2.2.1, .int .i64 z.2.2.2.2.1, .int .i64 z.2.2.2.2.2]]))
      (none)⟩
  | 2000006 => some ⟨[0, 2, 4, 6, 8, 10, 12, 14, 16], [], fun _ _ _ => none⟩
  | 2000013 => some ⟨[0, 3, 4, 6, 8, 10, 12, 14, 16, 18, 20, 22, 24, 26, 28, 30, 32, 34, 36, 38, 40, 42, 44, 46, 48, 50, 52, 54, 56, 58, 60], [], fun _ _ _ => none⟩
  | 2000020 => some ⟨[0, 3, 4, 6, 8, 10, 12, 14, 16, 18, 20, 22, 24, 26, 28, 30, 32, 34, 36, 38, 40, 42, 44, 46, 48, 50, 52, 54, 56, 58, 60], [], fun _ _ _ => none⟩
  | 2000029 => some ⟨[0, 2, 4, 6, 8, 10, 12, 14, 16], [], fun _ _ _ => none⟩
  | _ => none
def v6y : q30T → List AV := (fun x => [.bp 0 0, .bool x.1, .int .i64 x.2.1])
def v7i : q30T → St := (fun x => [.box [.lst tVersion x.2.2.1, .lst tTxn x.2.2.2.1, .lst tTxn x.2.2.2.2.1, .int .i64 x.2.2.2.2.2.1, .int .i64 x.2.2.2.2.2.2]])
def v2r : (q30T ⊕ q30T) → Out × List AV × St := (Sum.elim (fun z => (.ret, [.bp 0 0, .bool z.1, .int .i64 z.2.1], [.box [.lst tVersion z.2.2.1, .lst tTxn z.2.2.2.1, .lst tTxn z.2.2.2.2.1, .int .i64 z.2.2.2.2.2.1, .int .i64 z.2.2.2.2.2.2]])) (fun z => ((.exit 0), [.bp 0 0, .bool z.1, .int .i64 z.2.1], [.box [.lst tVersion z.2.2.1, .lst tTxn z.2.2.2.1, .lst tTxn z.2.2.2.2.1, .int .i64 z.2.2.2.2.2.1, .int .i64 z.2.2.2.2.2.2]])))
theorem wns (x : q30T) : exec G31.shallow ⟨0, 179, vax⟩ (vad Try.f152 0) (va5 ⟨0, 179, vax⟩ [1, 2, 3] []) (va3 (va0 179) [1, 2, 3] (v6y x)) (v7i x) = vk0 x (Sum.elim (fun y => some ⟨.norm, v6y y, v7i y⟩) fun z => some ⟨(v2r z).1, (v2r z).2.1, (v2r z).2.2⟩) := by
  kernel_rfl
theorem wpb : ∀ sp, (vax 0) = some sp → va8 G31.shallow ⟨0, 179, vax⟩ sp (vad Try.f152 0) := by
  intro sp hsp vals st k r h
  cases hsp
  dsimp only at h
  rcases vai h with ⟨p, q, rfl, rfl, h⟩ | h
  · exact vaq waj v6y v7i v2r (fun z => by rcases z with z | z <;> (intro h; cases h)) wns Fuel (p.2.1, p.2.2.1, q.1.1, q.1.2.1, q.1.2.2.1, q.1.2.2.2.1, q.1.2.2.2.2.1) _ k r (fun z => by rcases z with z | z <;> rfl) h
  cases h
def v63 : q27T → List AV := (fun x => [.bp 0 0, .bool x.1, .own 1, .int .i64 x.2.1])
def v74 : q27T → St := (fun x => [.box [.lst tVersion x.2.2.1, .lst tTxn x.2.2.2.1, .lst tTxn x.2.2.2.2.1, .int .i64 x.2.2.2.2.2.1, .int .i64 x.2.2.2.2.2.2.1], .arr (.int .i64) x.2.2.2.2.2.2.2])
def v3w : (q27T ⊕ q27T) → Out × List AV × St := (Sum.elim (fun z => (.ret, [.bp 0 0, .bool z.1, .own 1, .int .i64 z.2.1], [.box [.lst tVersion z.2.2.1, .lst tTxn z.2.2.2.1, .lst tTxn z.2.2.2.2.1, .int .i64 z.2.2.2.2.2.1, .int .i64 z.2.2.2.2.2.2.1], .arr (.int .i64) z.2.2.2.2.2.2.2])) (fun z => ((.exit 2), [.bp 0 0, .bool z.1, .own 1, .int .i64 z.2.1], [.box [.lst tVersion z.2.2.1, .lst tTxn z.2.2.2.1, .lst tTxn z.2.2.2.2.1, .int .i64 z.2.2.2.2.2.1, .int .i64 z.2.2.2.2.2.2.1], .arr (.int .i64) z.2.2.2.2.2.2.2])))
theorem wrf (x : q27T) : exec G31.shallow ⟨0, 179, vax⟩ (vad Try.f152 2) (va5 ⟨0, 179, vax⟩ [1, 2, 4, 5] []) (va3 (va0 179) [1, 2, 4, 5] (v63 x)) (v74 x) = vkl x (Sum.elim (fun y => some ⟨.norm, v63 y, v74 y⟩) fun z => some ⟨(v3w z).1, (v3w z).2.1, (v3w z).2.2⟩) := by
  kernel_rfl
theorem wn1 : ∀ sp, (vax 2) = some sp → va8 G31.shallow ⟨0, 179, vax⟩ sp (vad Try.f152 2) := by
  intro sp hsp vals st k r h
  cases hsp
  dsimp only at h
  rcases vai h with ⟨p, q, rfl, rfl, h⟩ | h
  · exact vaq wdm v63 v74 v3w (fun z => by rcases z with z | z <;> (intro h; cases h)) wrf Fuel (p.2.1, p.2.2.2.1, q.1.1, q.1.2.1, q.1.2.2.1, q.1.2.2.2.1, q.1.2.2.2.2.1, q.2.1) _ k r (fun z => by rcases z with z | z <;> rfl) h
  cases h
def v9w : q27T → List AV := (fun x => [.bp 0 0, .bool x.1, .own 1, .int .i64 x.2.1])
def v7u : q27T → St := (fun x => [.box [.lst tVersion x.2.2.1, .lst tTxn x.2.2.2.1, .lst tTxn x.2.2.2.2.1, .int .i64 x.2.2.2.2.2.1, .int .i64 x.2.2.2.2.2.2.1], .arr (.int .i64) x.2.2.2.2.2.2.2])
def v2m : (q27T ⊕ q27T) → Out × List AV × St := (Sum.elim (fun z => (.ret, [.bp 0 0, .bool z.1, .own 1, .int .i64 z.2.1], [.box [.lst tVersion z.2.2.1, .lst tTxn z.2.2.2.1, .lst tTxn z.2.2.2.2.1, .int .i64 z.2.2.2.2.2.1, .int .i64 z.2.2.2.2.2.2.1], .arr (.int .i64) z.2.2.2.2.2.2.2])) (fun z => ((.exit 4), [.bp 0 0, .bool z.1, .own 1, .int .i64 z.2.1], [.box [.lst tVersion z.2.2.1, .lst tTxn z.2.2.2.1, .lst tTxn z.2.2.2.2.1, .int .i64 z.2.2.2.2.2.1, .int .i64 z.2.2.2.2.2.2.1], .arr (.int .i64) z.2.2.2.2.2.2.2])))
theorem wp2 (x : q27T) : exec G31.shallow ⟨0, 179, vax⟩ (vad Try.f152 4) (va5 ⟨0, 179, vax⟩ [1, 2, 4, 7] []) (va3 (va0 179) [1, 2, 4, 7] (v9w x)) (v7u x) = vki x (Sum.elim (fun y => some ⟨.norm, v9w y, v7u y⟩) fun z => some ⟨(v2m z).1, (v2m z).2.1, (v2m z).2.2⟩) := by
  kernel_rfl
theorem wrp : ∀ sp, (vax 4) = some sp → va8 G31.shallow ⟨0, 179, vax⟩ sp (vad Try.f152 4) := by
  intro sp hsp vals st k r h
  cases hsp
  dsimp only at h
  rcases vai h with ⟨p, q, rfl, rfl, h⟩ | h
  · exact vaq wda v9w v7u v2m (fun z => by rcases z with z | z <;> (intro h; cases h)) wp2 Fuel (p.2.1, p.2.2.2.1, q.1.1, q.1.2.1, q.1.2.2.1, q.1.2.2.2.1, q.1.2.2.2.2.1, q.2.1) _ k r (fun z => by rcases z with z | z <;> rfl) h
  cases h
def v9x : q32T → List AV := (fun x => [.bp 0 0, .bool x.1, .own 1, .int .i64 x.2.1, .int .i64 x.2.2.1])
def v8z : q32T → St := (fun x => [.box [.lst tVersion x.2.2.2.1, .lst tTxn x.2.2.2.2.1, .lst tTxn x.2.2.2.2.2.1, .int .i64 x.2.2.2.2.2.2.1, .int .i64 x.2.2.2.2.2.2.2.1], .arr (.int .i64) x.2.2.2.2.2.2.2.2])
def v35 : (q32T ⊕ q32T) → Out × List AV × St := (Sum.elim (fun z => (.ret, [.bp 0 0, .bool z.1, .own 1, .int .i64 z.2.1, .int .i64 z.2.2.1], [.box [.lst tVersion z.2.2.2.1, .lst tTxn z.2.2.2.2.1, .lst tTxn z.2.2.2.2.2.1, .int .i64 z.2.2.2.2.2.2.1, .int .i64 z.2.2.2.2.2.2.2.1], .arr (.int .i64) z.2.2.2.2.2.2.2.2])) (fun z => ((.exit 8), [.bp 0 0, .bool z.1, .own 1, .int .i64 z.2.1, .int .i64 z.2.2.1], [.box [.lst tVersion z.2.2.2.1, .lst tTxn z.2.2.2.2.1, .lst tTxn z.2.2.2.2.2.1, .int .i64 z.2.2.2.2.2.2.1, .int .i64 z.2.2.2.2.2.2.2.1], .arr (.int .i64) z.2.2.2.2.2.2.2.2])))
theorem wr4 (x : q32T) : exec G31.shallow ⟨0, 179, vax⟩ (vad Try.f152 8) (va5 ⟨0, 179, vax⟩ [1, 2, 4, 9, 10] []) (va3 (va0 179) [1, 2, 4, 9, 10] (v9x x)) (v8z x) = vmj x (Sum.elim (fun y => some ⟨.norm, v9x y, v8z y⟩) fun z => some ⟨(v35 z).1, (v35 z).2.1, (v35 z).2.2⟩) := by
  kernel_rfl
theorem wr3 : ∀ sp, (vax 8) = some sp → va8 G31.shallow ⟨0, 179, vax⟩ sp (vad Try.f152 8) := by
  intro sp hsp vals st k r h
  cases hsp
  dsimp only at h
  rcases vai h with ⟨p, q, rfl, rfl, h⟩ | h
  · exact vaq wef v9x v8z v35 (fun z => by rcases z with z | z <;> (intro h; cases h)) wr4 Fuel (p.2.1, p.2.2.2.1, p.2.2.2.2.1, q.1.1, q.1.2.1, q.1.2.2.1, q.1.2.2.2.1, q.1.2.2.2.2.1, q.2.1) _ k r (fun z => by rcases z with z | z <;> rfl) h
  cases h
def v9u : q27T → List AV := (fun x => [.bp 0 0, .bool x.1, .own 1, .int .i64 x.2.1])
def v8o : q27T → St := (fun x => [.box [.lst tVersion x.2.2.1, .lst tTxn x.2.2.2.1, .lst tTxn x.2.2.2.2.1, .int .i64 x.2.2.2.2.2.1, .int .i64 x.2.2.2.2.2.2.1], .arr (.int .i64) x.2.2.2.2.2.2.2])
def v3l : (q27T ⊕ q27T) → Out × List AV × St := (Sum.elim (fun z => ((.exit 6), [.bp 0 0, .bool z.1, .own 1, .int .i64 z.2.1], [.box [.lst tVersion z.2.2.1, .lst tTxn z.2.2.2.1, .lst tTxn z.2.2.2.2.1, .int .i64 z.2.2.2.2.2.1, .int .i64 z.2.2.2.2.2.2.1], .arr (.int .i64) z.2.2.2.2.2.2.2])) (fun z => (.ret, [.bp 0 0, .bool z.1, .own 1, .int .i64 z.2.1], [.box [.lst tVersion z.2.2.1, .lst tTxn z.2.2.2.1, .lst tTxn z.2.2.2.2.1, .int .i64 z.2.2.2.2.2.1, .int .i64 z.2.2.2.2.2.2.1], .arr (.int .i64) z.2.2.2.2.2.2.2])))
theorem wrt (x : q27T) : exec G31.shallow ⟨0, 179, vax⟩ (vad Try.f152 6) (va5 ⟨0, 179, vax⟩ [1, 2, 4, 9] []) (va3 (va0 179) [1, 2, 4, 9] (v9u x)) (v8o x) = vj9 x (Sum.elim (fun y => some ⟨.norm, v9u y, v8o y⟩) fun z => some ⟨(v3l z).1, (v3l z).2.1, (v3l z).2.2⟩) := by
  kernel_rfl
theorem wp9 : ∀ sp, (vax 6) = some sp → va8 G31.shallow ⟨0, 179, vax⟩ sp (vad Try.f152 6) := by
  intro sp hsp vals st k r h
  cases hsp
  dsimp only at h
  rcases vai h with ⟨p, q, rfl, rfl, h⟩ | h
  · exact vaq wck v9u v8o v3l (fun z => by rcases z with z | z <;> (intro h; cases h)) wrt Fuel (p.2.1, p.2.2.2.1, q.1.1, q.1.2.1, q.1.2.2.1, q.1.2.2.2.1, q.1.2.2.2.2.1, q.2.1) _ k r (fun z => by rcases z with z | z <;> rfl) h
  cases h
def vog : q25T → List AV := (fun x => [.bp 0 0, .bool x.1])
def vnv : q25T → St := (fun x => [.box [.lst tVersion x.2.1, .lst tTxn x.2.2.1, .lst tTxn x.2.2.2.1, .int .i64 x.2.2.2.2.1, .int .i64 x.2.2.2.2.2]])
def vga : q25T → Out × List AV × St := (fun z => (.ret, [.bp 0 0, .bool z.1], [.box [.lst tVersion z.2.1, .lst tTxn z.2.2.1, .lst tTxn z.2.2.2.1, .int .i64 z.2.2.2.2.1, .int .i64 z.2.2.2.2.2]]))
theorem vyv (x : q25T) : exec G31.shallow ⟨0, 179, vax⟩ (vad Try.f152 5000003) (va5 ⟨0, 179, vax⟩ [1, 2] []) (va3 (va0 179) [1, 2] (vog x)) (vnv x) = vc0 x (fun z => some ⟨(vga z).1, (vga z).2.1, (vga z).2.2⟩) := by
  kernel_rfl
theorem vxf : ∀ sp, (vax 5000003) = some sp → vg5 G31.shallow ⟨0, 179, vax⟩ sp (vad Try.f152 5000003) := by
  intro sp hsp vals st k r h
  cases hsp
  dsimp only at h
  rcases vai h with ⟨p, q, rfl, rfl, h⟩ | h
  · exact vbu vo5 vog vnv vga vyv (p.2.1, q.1.1, q.1.2.1, q.1.2.2.1, q.1.2.2.2.1, q.1.2.2.2.2.1) _ k r (fun z => rfl) h
  cases h
theorem wz7 (a0 : (List vac)) (a1 : (List dTxn)) (a2 : (List dTxn)) (a3 : Int) (a4 : Int) : var G31.shallow vax Try.f152 [.agg [.lst tVersion a0, .lst tTxn a1, .lst tTxn a2, .int .i64 a3, .int .i64 a4]] [] = vtn (a0, (a1, (a2, (a3, a4)))) (fun (y : Bool) => some ⟨.ret, [.bool y], []⟩) := by rw [wgv]; kernel_rfl
theorem wv2 : vao G31.shallow ⟨0, 179, vax⟩ (Try.f152.body.getD .skip) :=
  vaf (ids := [0, 2, 4, 8, 6, 5000003]) (by kernel_rfl) (by kernel_rfl) ⟨wpb, ⟨wn1, ⟨wrp, ⟨wr3, ⟨wp9, ⟨vxf, trivial⟩⟩⟩⟩⟩⟩
theorem wyq : val Try.prog 152 wh2 := by
  refine told G31_ok.shallow follows Try.func152 (c := Try.f152.body.getD .skip) (by kernel_rfl) ?_
  intro args s k r hk
  unfold wh2 at hk
  rcases vag hk with ⟨p, q, rfl, rfl⟩ | hk
  · exact ⟨vax, (wt5 (p.1.1, (p.1.2.1, (p.1.2.2.1, (p.1.2.2.2.1, p.1.2.2.2.2.1))))).map _, wz7 p.1.1 p.1.2.1 p.1.2.2.1 p.1.2.2.2.1 p.1.2.2.2.2.1, wv2⟩
  cases hk
def G32 : Glob := G31.add 152 wh2
theorem G32_ok : GlobOk Try.prog G32 := G31_ok.add ⟨Try.f152, Try.func152, by kernel_rfl, by kernel_rfl⟩ wyq
def va4 : Nat → Option LoopSpec
  | 2 => some ⟨[1, 2, 3, 4, 5], [], fun vals st k => vam [.bp 0 0, .bool, .int .i64, .bp 1 0, .int .i64] [.box [.lst tVersion, .lst tTxn, .lst tTxn, .int .i64, .int .i64, .lst tTxn], .box [.int .i64, .int .i64, .int .i64, .int .i64, .lst tRange, .lst tWrite, .bool, .str]] vals st (fun p q => vah vj1 Fuel (p.2.1, p.2.2.1, p.2.2.2.2.1, q.1.1, q.1.2.1, q.1.2.2.1, q.1.2.2.2.1, q.1.2.2.2.2.1, q.1.2.2.2.2.2.1, q.2.1.1, q.2.1.2.1, q.2.1.2.2.1, q.2.1.2.2.2.1, q.2.1.2.2.2.2.1, q.2.1.2.2.2.2.2.1, q.2.1.2.2.2.2.2.2.1, q.2.1.2.2.2.2.2.2.2.1) (Sum.elim (fun z => k .ret [.bp 0 0, .bool z.1, .int .i64 z.2.1, .bp 1 0, .int .i64 z.2.2.1] [.box [.lst tVersion z.2.2.2.1, .lst tTxn z.2.2.2.2.1, .lst tTxn z.2.2.2.2.2.1, .int .i64 z.2.2.2.2.2.2.1, .int .i64 z.2.2.2.2.2.2.2.1, .lst tTxn z.2.2.2.2.2.2.2.2.1], .box [.int .i64 z.2.2.2.2.2.2.2.2.2.1, .int .i64 z.2.2.2.2.2.2.2.2.2.2.1, .int .i64 z.2.2.2.2.2.2.2.2.2.2.2.1, .int .i64 z.2.2.2.2.2.2.2.2.2.2.2.2.1, .lst tRange z.2.2.2.2.2.2.2.2.2.2.2.2.2.1, .lst tWrite z.2.2.2.2.2.2.2.2.2.2.2.2.2.2.1, .bool z.2.2.2.2.2.2.2.2.2.2.2.2.2.2.2.1, .str z.2.2.2.2.2.2.2.2.2.2.2.2.2.2.2.2]]) (fun z => k (.exit 2) [.bp 0 0, .bool z.1, .int .i64 z.2.1, .bp 1 0, .int .i64 z.2.2.1] [.box [.lst tVersion z.2.2.2.1, .lst tTxn z.2.2.2.2.1, .lst tTxn z.2.2.2.2.2.1, .int .i64 z.2.2.2.2.2.2.1, .int .i64 z.2.2.2.2.2.2.2.1, .lst tTxn z.2.2.2.2.2.2.2.2.1], .box [.int .i64 z.2.2.2.2.2.2.2.2.2.1, .int .i64 z.2.2.2.2.2.2.2.2.2.2.1, .int .i64 z.2.2.2.2.2.2.2.2.2.2.2.1, .int .i64 z.2.2.2.2.2.2.2.2.2.2.2.2.1, .lst tRange z.2.2.2.2.2.2.2.2.2.2.2.2.2.1, .lst tWrite z.2.2.2.2.2.2.2.2.2.2.2.2.2.2.1, .bool z.2.2.2.2.2.2.2.2.2.2.2.2.2.2.2.1, .str z.2.2.2.2.2.2.2.2.2.2.2.2.2.2.2.2]])))
      (none)⟩
  | 4 => some ⟨[1, 2, 3, 4, 6], [], fun vals st k => vam [.bp 0 0, .bool, .int .i64, .bp 1 0, .int .i64] [.box [.lst tVersion, .lst tTxn, .lst tTxn, .int .i64, .int .i64, .lst tTxn], .box [.int .i64, .int .i64, .int .i64, .int .i64, .lst tRange, .lst tWrite, .bool, .str]] vals st (fun p q => vah vjk Fuel (p.2.1, p.2.2.1, p.2.2.2.2.1, q.1.1, q.1.2.1, q.1.2.2.1, q.1.2.2.2.1, q.1.2.2.2.2.1, q.1.2.2.2.2.2.1, q.2.1.1, q.2.1.2.1, q.2.1.2.2.1, q.2.1.2.2.2.1, q.2.1.2.2.2.2.1, q.2.1.2.2.2.2.2.1, q.2.1.2.2.2.2.2.2.1, q.2.1.2.2.2.2.2.2.2.1) (Sum.elim (fun z => k .ret [.bp 0 0, .bool z.1, .int .i64 z.2.1, .bp 1 0, .int .i64 z.2.2.1] [.box [.lst tVersion z.2.2.2.1, .lst tTxn z.2.2.2.2.1, .lst tTxn z.2.2.2.2.2.1, .int .i64 z.2.2.2.2.2.2.1, .int .i64 z.2.2.2.2.2.2.2.1, .lst tTxn z.2.2.2.2.2.2.2.2.1], .box [.int .i64 z.2.2.2.2.2.2.2.2.2.1, .int .i64 z.2.2.2.2.2.2.2.2.2.2.1, .int .i64 z.2.2.2.2.2.2.2.2.2.2.2.1, .int .i64 z.2.2.2.2.2.2.2.2.2.2.2.2.1, .lst tRange z.2.2.2.2.2.2.2.2.2.2.2.2.2.1, .lst tWrite z.2.2.2.2.2.2.2.2.2.2.2.2.2.2.1, .bool z.2.2.2.2.2.2.2.2.2.2.2.2.2.2.2.1, .str z.2.2.2.2.2.2.2.2.2.2.2.2.2.2.2.2]]) (fun z => k (.exit 4) [.bp 0 0, .bool z.1, .int .i64 z.2.1, .bp 1 0, .int .i64 z.2.2.1] [.box [.lst tVersion z.2.2.2.1, .lst tTxn z.2.2.2.2.1, .lst tTxn z.2.2.2.2.2.1, .int .i64 z.2.2.2.2.2.2.1, .int .i64 z.2.2.2.2.2.2.2.1, .lst tTxn z.2.2.2.2.2.2.2.2.1], .box [.int .i64 z.2.2.2.2.2.2.2.2.2.1, .int .i64 z.2.2.2.2.2.2.2.2.2.2.1, .int .i64 z.2.2.2.2.2.2.2.2.2.2.2.1, .int .i64 z.2.2.2.2.2.2.2.2.2.2.2.2.1, .lst tRange z.2.2.2.2.2.2.2.2.2.2.2.2.2.1, .lst tWrite z.2.2.2.2.2.2.2.2.2.2.2.2.2.2.1, .bool z.2.2.2.2.2.2.2.2.2.2.2.2.2.2.2.1, .str z.2.2.2.2.2.2.2.2.2.2.2.2.2.2.2.2]])))
      (none)⟩
  | 5000009 => some ⟨[1, 2, 3, 4], [], fun vals st k => vam [.bp 0 0, .bool, .int .i64, .bp 1 0] [.box [.lst tVersion, .lst tTxn, .lst tTxn, .int .i64, .int .i64, .lst tTxn], .box [.int .i64, .int .i64, .int .i64, .int .i64, .lst tRange, .lst tWrite, .bool, .str]] vals st (fun p q => vcm (p.2.1, p.2.2.1, q.1.1, q.1.2.1, q.1.2.2.1, q.1.2.2.2.1, q.1.2.2.2.2.1, q.1.2.2.2.2.2.1, q.2.1.1, q.2.1.2.1, q.2.1.2.2.1, q.2.1.2.2.2.1, q.2.1.2.2.2.2.1, q.2.1.2.2.2.2.2.1, q.2.1.2.2.2.2.2.2.1, q.2.1.2.2.2.2.2.2.2.1) (Sum.elim (fun z => k .ret [.bp 0 0, .bool z.1, .int .i64 z.2.1, .bp 1 0] [.box [.lst tVersion z.2.2.1, .lst tTxn z.2.2.2.1, .lst tTxn z.2.2.2.2.1, .int .i64 z.2.2.2.2.2.1, .int .i64 z.2.2.2.2.2.2.1, .lst tTxn z.2.2.2.2.2.2.2.1], .box [.int .i64 z.2.2.2.2.2.2.2.2.1, .int .i64 z.2.2.2.2.2.2.2.2.2.1, .int .i64 z.2.2.2.2.2.2.2.2.2.2.1, .int .i64 z.2.2.2.2.2.2.2.2.2.2.2.1, .lst tRange z.2.2.2.2.2.2.2.2.2.2.2.2.1, .lst tWrite z.2.2.2.2.2.2.2.2.2.2.2.2.2.1, .bool z.2.2.2.2.2.2.2.2.2.2.2.2.2.2.1, .str z.2.2.2.2.2.2.2.2.2.2.2.2.2.2.2]]) (fun z => k .norm [.bp 0 0, .bool z.1, .int .i64 z.2.1, .bp 1 0] [.box [.lst tVersion z.2.2.1, .lst tTxn z.2.2.2.1, .lst tTxn z.2.2.2.2.1, .int .i64 z.2.2.2.2.2.1, .int .i64 z.2.2.2.2.2.2.1, .lst tTxn z.2.2.2.2.2.2.2.1], .box [.int .i64 z.2.2.2.2.2.2.2.2.1, .int .i64 z.2.2.2.2.2.2.2.2.2.1, .int .i64 z.2.2.2.2.2.2.2.2.2.2.1, .int .i64 z.2.2.2.2.2.2.2.2.2.2.2.1, .lst tRange z.2.2.2.2.2.2.2.2.2.2.2.2.1, .lst tWrite z.2.2.2.2.2.2.2.2.2.2.2.2.2.1, .bool z.2.2.2.2.2.2.2.2.2.2.2.2.2.2.1, .str z.2.2.2.2.2.2.2.2.2.2.2.2.2.2.2]])))
      (none)⟩
  | 0 => some ⟨[1, 2, 3], [], fun vals st k => vam [.bp 0 0, .bool, .int .i64] [.box [.lst tVersion, .lst tTxn, .lst tTxn, .int .i64, .int .i64, .lst tTxn]] vals st (fun p q => vah vk8 Fuel (p.2.1, p.2.2.1, q.1.1, q.1.2.1, q.1.2.2.1, q.1.2.2.2.1, q.1.2.2.2.2.1, q.1.2.2.2.2.2.1) (Sum.elim (fun z => k .ret [.bp 0 0, .bool z.1, .int .i64 z.2.1] [.box [.lst tVersion z.2.2.1, .lst tTxn z.2.2.2.1, .lst tTxn z.2.2.2.2.1, .int .i64 z.2.2.2.2.2.1, .int .i64 z.2.2.2.2.2.2.1, .lst tTxn z.2.2.2.2.2.2.2]]) (fun z => k (.exit 0) [.bp 0 0, .bool z.1, .int .i64 z.2.1] [.box [.lst tVersion z.2.2.1, .lst tTxn z.2.2.2.1, .lst tTxn z.2.2.2.2.1, .int .i64 z.2.2.2.2.2.1, .int .i64 z.2.2.2.2.2.2.1, .lst tTxn z.2.2.2.2.2.2.2]])))
      (none)⟩
  | 5000003 => some ⟨[1, 2], [], fun vals st k => vam [.bp 0 0, .bool] [.box [.lst tVersion, .lst tTxn, .lst tTxn, .int .i64, .int .i64, .lst tTxn]] vals st (fun p q => vc5 (p.2.1, q.1.1, q.1.2.1, q.1.2.2.1, q.1.2.2.2.1, q.1.2.2.2.2.1, q.1.2.2.2.2.2.1) (fun z => k .ret [.bp 0 0, .bool z.1] [.box [.lst tVersion z.2.1, .lst tTxn z.2.2.1, .lst tTxn z.2.2.2.1, .int .i64 z.2.2.2.2.1, .int .i64 z.2.2.2.2.2.1, .lst tTxn z.2.2.2.2.2.2]]))
      (none)⟩
  | 2000007 => some ⟨[0, 3, 4, 6, 8, 10, 12, 14, 16, 18, 20, 22, 24, 26, 28, 30, 32, 34, 36, 38, 40, 42, 44, 46, 48, 50, 52, 54, 56, 58, 60, 62, 64, 66, 68, 70, 72, 74, 76, 78], [], fun _ _ _ => none⟩
  | 2000012 => some ⟨[0, 2, 4, 6, 8, 10, 12, 14, 16, 18], [], fun _ _ _ => none⟩
  | 2000017 => some ⟨[0, 2, 4, 6, 8, 10, 12, 14, 16, 18], [], fun _ _ _ => none⟩
  | _ => none
def v8q : q33T → List AV := (fun x => [.bp 0 0, .bool x.1, .int .i64 x.2.1, .bp 1 0, .int .i64 x.2.2.1])
def v8v : q33T → St := (fun x => [.box [.lst tVersion x.2.2.2.1, .lst tTxn x.2.2.2.2.1, .lst tTxn x.2.2.2.2.2.1, .int .i64 x.2.2.2.2.2.2.1, .int .i64 x.2.2.2.2.2.2.2.1, .lst tTxn x.2.2.2.2.2.2.2.2.1], .box [.int .i64 x.2.2.2.2.2.2.2.2.2.1, .int .i64 x.2.2.2.2.2.2.2.2.2.2.1, .int .i64 x.2.2.2.2.2.2.2.2.2.2.2.1, .int .i64 x.2.2.2.2.2.2.2.2.2.2.2.2.1, .lst tRange x.2.2.2.2.2.2.2.2.2.2.2.2.2.1, .lst tWrite x.2.2.2.2.2.2.2.2.2.2.2.2.2.2.1, .bool x.2.2.2.2.2.2.2.2.2.2.2.2.2.2.2.1, .str x.2.2.2.2.2.2.2.2.2.2.2.2.2.2.2.2]])
def v3g : (q33T ⊕ q33T) → Out × List AV × St := (Sum.elim (fun z => (.ret, [.bp 0 0, .bool z.1, .int .i64 z.2.1, .bp 1 0, .int .i64 z.2.2.1], [.box [.lst tVersion z.2.2.2.1, .lst tTxn z.2.2.2.2.1, .lst tTxn z.2.2.2.2.2.1, .int .i64 z.2.2.2.2.2.2.1, .int .i64 z.2.2.2.2.2.2.2.1, .lst tTxn z.2.2.2.2.2.2.2.2.1], .box [.int .i64 z.2.2.2.2.2.2.2.2.2.1, .int .i64 z.2.2.2.2.2.2.2.2.2.2.1, .int .i64 z.2.2.2.2.2.2.2.2.2.2.2.1, .int .i64 z.2.2.2.2.2.2.2.2.2.2.2.2.1, .lst tRange z.2.2.2.2.2.2.2.2.2.2.2.2.2.1, .lst tWrite z.2.2.2.2.2.2.2.2.2.2.2.2.2.2.1, .bool z.2.2.2.2.2.2.2.2.2.2.2.2.2.2.2.1, .str z.2.2.2.2.2.2.2.2.2.2.2.2.2.2.2.2]])) (fun z => ((.exit 2), [.bp 0 0, .bool z.1, .int .i64 z.2.1, .bp 1 0, .int .i64 z.2.2.1], [.box [.lst tVersion z.2.2.2.1, .lst tTxn z.2.2.2.2.1, .lst tTxn z.2.2.2.2.2.1, .int .i64 z.2.2.2.2.2.2.1, .int .i64 z.2.2.2.2.2.2.2.1, .lst tTxn z.2.2.2.2.2.2.2.2.1], .box [.int .i64 z.2.2.2.2.2.2.2.2.2.1, .int .i64 z.2.2.2.2.2.2.2.2.2.2.1, .int .i64 z.2.2.2.2.2.2.2.2.2.2.2.1, .int .i64 z.2.2.2.2.2.2.2.2.2.2.2.2.1, .lst tRange z.2.2.2.2.2.2.2.2.2.2.2.2.2.1, .lst tWrite z.2.2.2.2.2.2.2.2.2.2.2.2.2.2.1, .bool z.2.2.2.2.2.2.2.2.2.2.2.2.2.2.2.1, .str z.2.2.2.2.2.2.2.2.2.2.2.2.2.2.2.2]])))
theorem wq2 (x : q33T) : exec G32.shallow ⟨0, 105, va4⟩ (vad Try.f139 2) (va5 ⟨0, 105, va4⟩ [1, 2, 3, 4, 5] []) (va3 (va0 105) [1, 2, 3, 4, 5] (v8q x)) (v8v x) = vj1 x (Sum.elim (fun y => some ⟨.norm, v8q y, v8v y⟩) fun z => some ⟨(v3g z).1, (v3g z).2.1, (v3g z).2.2⟩) := by
  kernel_rfl
theorem wpx : ∀ sp, (va4 2) = some sp → va8 G32.shallow ⟨0, 105, va4⟩ sp (vad Try.f139 2) := by
  intro sp hsp vals st k r h
  cases hsp
  dsimp only at h
  rcases vai h with ⟨p, q, rfl, rfl, h⟩ | h
  · exact vaq wac v8q v8v v3g (fun z => by rcases z with z | z <;> (intro h; cases h)) wq2 Fuel (p.2.1, p.2.2.1, p.2.2.2.2.1, q.1.1, q.1.2.1, q.1.2.2.1, q.1.2.2.2.1, q.1.2.2.2.2.1, q.1.2.2.2.2.2.1, q.2.1.1, q.2.1.2.1, q.2.1.2.2.1, q.2.1.2.2.2.1, q.2.1.2.2.2.2.1, q.2.1.2.2.2.2.2.1, q.2.1.2.2.2.2.2.2.1, q.2.1.2.2.2.2.2.2.2.1) _ k r (fun z => by rcases z with z | z <;> rfl) h
  cases h
def v6u : q33T → List AV := (fun x => [.bp 0 0, .bool x.1, .int .i64 x.2.1, .bp 1 0, .int .i64 x.2.2.1])
def v8i : q33T → St := (fun x => [.box [.lst tVersion x.2.2.2.1, .lst tTxn x.2.2.2.2.1, .lst tTxn x.2.2.2.2.2.1, .int .i64 x.2.2.2.2.2.2.1, .int .i64 x.2.2.2.2.2.2.2.1, .lst tTxn x.2.2.2.2.2.2.2.2.1], .box [.int .i64 x.2.2.2.2.2.2.2.2.2.1, .int .i64 x.2.2.2.2.2.2.2.2.2.2.1, .int .i64 x.2.2.2.2.2.2.2.2.2.2.2.1, .int .i64 x.2.2.2.2.2.2.2.2.2.2.2.2.1, .lst tRange x.2.2.2.2.2.2.2.2.2.2.2.2.2.1, .lst tWrite x.2.2.2.2.2.2.2.2.2.2.2.2.2.2.1, .bool x.2.2.2.2.2.2.2.2.2.2.2.2.2.2.2.1, .str x.2.2.2.2.2.2.2.2.2.2.2.2.2.2.2.2]])
def v10 : (q33T ⊕ q33T) → Out × List AV × St := (Sum.elim (fun z => (.ret, [.bp 0 0, .bool z.1, .int .i64 z.2.1, .bp 1 0, .int .i64 z.2.2.1], [.box [.lst tVersion z.2.2.2.1, .lst tTxn z.2.2.2.2.1, .lst tTxn z.2.2.2.2.2.1, .int .i64 z.2.2.2.2.2.2.1, .int .i64 z.2.2.2.2.2.2.2.1, .lst tTxn z.2.2.2.2.2.2.2.2.1], .box [.int .i64 z.2.2.2.2.2.2.2.2.2.1, .int .i64 z.2.2.2.2.2.2.2.2.2.2.1, .int .i64 z.2.2.2.2.2.2.2.2.2.2.2.1, .int .i64 z.2.2.2.2.2.2.2.2.2.2.2.2.1, .lst tRange z.2.2.2.2.2.2.2.2.2.2.2.2.2.1, .lst tWrite z.2.2.2.2.2.2.2.2.2.2.2.2.2.2.1, .bool z.2.2.2.2.2.2.2.2.2.2.2.2.2.2.2.1, .str z.2.2.2.2.2.2.2.2.2.2.2.2.2.2.2.2]])) (fun z => ((.exit 4), [.bp 0 0, .bool z.1, .int .i64 z.2.1, .bp 1 0, .int .i64 z.2.2.1], [.box [.lst tVersion z.2.2.2.1, .lst tTxn z.2.2.2.2.1, .lst tTxn z.2.2.2.2.2.1, .int .i64 z.2.2.2.2.2.2.1, .int .i64 z.2.2.2.2.2.2.2.1, .lst tTxn z.2.2.2.2.2.2.2.2.1], .box [.int .i64 z.2.2.2.2.2.2.2.2.2.1, .int .i64 z.2.2.2.2.2.2.2.2.2.2.1, .int .i64 z.2.2.2.2.2.2.2.2.2.2.2.1, .int .i64 z.2.2.2.2.2.2.2.2.2.2.2.2.1, .lst tRange z.2.2.2.2.2.2.2.2.2.2.2.2.2.1, .lst tWrite z.2.2.2.2.2.2.2.2.2.2.2.2.2.2.1, .bool z.2.2.2.2.2.2.2.2.2.2.2.2.2.2.2.1, .str z.2.2.2.2.2.2.2.2.2.2.2.2.2.2.2.2]])))
theorem wn6 (x : q33T) : exec G32.shallow ⟨0, 105, va4⟩ (vad Try.f139 4) (va5 ⟨0, 105, va4⟩ [1, 2, 3, 4, 6] []) (va3 (va0 105) [1, 2, 3, 4, 6] (v6u x)) (v8i x) = vjk x (Sum.elim (fun y => some ⟨.norm, v6u y, v8i y⟩) fun z => some ⟨(v10 z).1, (v10 z).2.1, (v10 z).2.2⟩) := by
  kernel_rfl
theorem wo1 : ∀ sp, (va4 4) = some sp → va8 G32.shallow ⟨0, 105, va4⟩ sp (vad Try.f139 4) := by
  intro sp hsp vals st k r h
  cases hsp
  dsimp only at h
  rcases vai h with ⟨p, q, rfl, rfl, h⟩ | h
  · exact vaq wbl v6u v8i v10 (fun z => by rcases z with z | z <;> (intro h; cases h)) wn6 Fuel (p.2.1, p.2.2.1, p.2.2.2.2.1, q.1.1, q.1.2.1, q.1.2.2.1, q.1.2.2.2.1, q.1.2.2.2.2.1, q.1.2.2.2.2.2.1, q.2.1.1, q.2.1.2.1, q.2.1.2.2.1, q.2.1.2.2.2.1, q.2.1.2.2.2.2.1, q.2.1.2.2.2.2.2.1, q.2.1.2.2.2.2.2.2.1, q.2.1.2.2.2.2.2.2.2.1) _ k r (fun z => by rcases z with z | z <;> rfl) h
  cases h
def vnf : q28T → List AV := (fun x => [.bp 0 0, .bool x.1, .int .i64 x.2.1, .bp 1 0])
def vot : q28T → St := (fun x => [.box [.lst tVersion x.2.2.1, .lst tTxn x.2.2.2.1, .lst tTxn x.2.2.2.2.1, .int .i64 x.2.2.2.2.2.1, .int .i64 x.2.2.2.2.2.2.1, .lst tTxn x.2.2.2.2.2.2.2.1], .box [.int .i64 x.2.2.2.2.2.2.2.2.1, .int .i64 x.2.2.2.2.2.2.2.2.2.1, .int .i64 x.2.2.2.2.2.2.2.2.2.2.1, .int .i64 x.2.2.2.2.2.2.2.2.2.2.2.1, .lst tRange x.2.2.2.2.2.2.2.2.2.2.2.2.1, .lst tWrite x.2.2.2.2.2.2.2.2.2.2.2.2.2.1, .bool x.2.2.2.2.2.2.2.2.2.2.2.2.2.2.1, .str x.2.2.2.2.2.2.2.2.2.2.2.2.2.2.2]])
def vge : (q28T ⊕ q28T) → Out × List AV × St := (Sum.elim (fun z => (.ret, [.bp 0 0, .bool z.1, .int .i64 z.2.1, .bp 1 0], [.box [.lst tVersion z.2.2.1, .lst tTxn z.2.2.2.1, .lst tTxn z.2.2.2.2.1, .int .i64 z.2.2.2.2.2.1, .int .i64 z.2.2.2.2.2.2.1, .lst tTxn z.2.2.2.2.2.2.2.1], .box [.int .i64 z.2.2.2.2.2.2.2.2.1, .int .i64 z.2.2.2.2.2.2.2.2.2.1, .int .i64 z.2.2.2.2.2.2.2.2.2.2.1, .int .i64 z.2.2.2.2.2.2.2.2.2.2.2.1, .lst tRange z.2.2.2.2.2.2.2.2.2.2.2.2.1, .lst tWrite z.2.2.2.2.2.2.2.2.2.2.2.2.2.1, .bool z.2.2.2.2.2.2.2.2.2.2.2.2.2.2.1, .str z.2.2.2.2.2.2.2.2.2.2.2.2.2.2.2]])) (fun z => (.norm, [.bp 0 0, .bool z.1, .int .i64 z.2.1, .bp 1 0], [.box [.lst tVersion z.2.2.1, .lst tTxn z.2.2.2.1, .lst tTxn z.2.2.2.2.1, .int .i64 z.2.2.2.2.2.1, .int .i64 z.2.2.2.2.2.2.1, .lst tTxn z.2.2.2.2.2.2.2.1], .box [.int .i64 z.2.2.2.2.2.2.2.2.1, .int .i64 z.2.2.2.2.2.2.2.2.2.1, .int .i64 z.2.2.2.2.2.2.2.2.2.2.1, .int .i64 z.2.2.2.2.2.2.2.2.2.2.2.1, .lst tRange z.2.2.2.2.2.2.2.2.2.2.2.2.1, .lst tWrite z.2.2.2.2.2.2.2.2.2.2.2.2.2.1, .bool z.2.2.2.2.2.2.2.2.2.2.2.2.2.2.1, .str z.2.2.2.2.2.2.2.2.2.2.2.2.2.2.2]])))
theorem vys (x : q28T) : exec G32.shallow ⟨0, 105, va4⟩ (vad Try.f139 5000009) (va5 ⟨0, 105, va4⟩ [1, 2, 3, 4] []) (va3 (va0 105) [1, 2, 3, 4] (vnf x)) (vot x) = vcm x (fun z => some ⟨(vge z).1, (vge z).2.1, (vge z).2.2⟩) := by
  kernel_rfl
theorem vxl : ∀ sp, (va4 5000009) = some sp → vg5 G32.shallow ⟨0, 105, va4⟩ sp (vad Try.f139 5000009) := by
  intro sp hsp vals st k r h
  cases hsp
  dsimp only at h
  rcases vai h with ⟨p, q, rfl, rfl, h⟩ | h
  · exact vbu vim vnf vot vge vys (p.2.1, p.2.2.1, q.1.1, q.1.2.1, q.1.2.2.1, q.1.2.2.2.1, q.1.2.2.2.2.1, q.1.2.2.2.2.2.1, q.2.1.1, q.2.1.2.1, q.2.1.2.2.1, q.2.1.2.2.2.1, q.2.1.2.2.2.2.1, q.2.1.2.2.2.2.2.1, q.2.1.2.2.2.2.2.2.1, q.2.1.2.2.2.2.2.2.2.1) _ k r (fun z => by rcases z with z | z <;> rfl) h
  cases h
def v8j : q29T → List AV := (fun x => [.bp 0 0, .bool x.1, .int .i64 x.2.1])
def v6a : q29T → St := (fun x => [.box [.lst tVersion x.2.2.1, .lst tTxn x.2.2.2.1, .lst tTxn x.2.2.2.2.1, .int .i64 x.2.2.2.2.2.1, .int .i64 x.2.2.2.2.2.2.1, .lst tTxn x.2.2.2.2.2.2.2]])
def v18 : (q29T ⊕ q29T) → Out × List AV × St := (Sum.elim (fun z => (.ret, [.bp 0 0, .bool z.1, .int .i64 z.2.1], [.box [.lst tVersion z.2.2.1, .lst tTxn z.2.2.2.1, .lst tTxn z.2.2.2.2.1, .int .i64 z.2.2.2.2.2.1, .int .i64 z.2.2.2.2.2.2.1, .lst tTxn z.2.2.2.2.2.2.2]])) (fun z => ((.exit 0), [.bp 0 0, .bool z.1, .int .i64 z.2.1], [.box [.lst tVersion z.2.2.1, .lst tTxn z.2.2.2.1, .lst tTxn z.2.2.2.2.1, .int .i64 z.2.2.2.2.2.1, .int .i64 z.2.2.2.2.2.2.1, .lst tTxn z.2.2.2.2.2.2.2]])))
theorem wqs (x : q29T) : exec G32.shallow ⟨0, 105, va4⟩ (vad Try.f139 0) (va5 ⟨0, 105, va4⟩ [1, 2, 3] []) (va3 (va0 105) [1, 2, 3] (v8j x)) (v6a x) = vk8 x (Sum.elim (fun y => some ⟨.norm, v8j y, v6a y⟩) fun z => some ⟨(v18 z).1, (v18 z).2.1, (v18 z).2.2⟩) := by
  kernel_rfl
theorem wo6 : ∀ sp, (va4 0) = some sp → va8 G32.shallow ⟨0, 105, va4⟩ sp (vad Try.f139 0) := by
  intro sp hsp vals st k r h
  cases hsp
  dsimp only at h
  rcases vai h with ⟨p, q, rfl, rfl, h⟩ | h
  · exact vaq wd2 v8j v6a v18 (fun z => by rcases z with z | z <;> (intro h; cases h)) wqs Fuel (p.2.1, p.2.2.1, q.1.1, q.1.2.1, q.1.2.2.1, q.1.2.2.2.1, q.1.2.2.2.2.1, q.1.2.2.2.2.2.1) _ k r (fun z => by rcases z with z | z <;> rfl) h
  cases h
def vnl : q24T → List AV := (fun x => [.bp 0 0, .bool x.1])
def vnb : q24T → St := (fun x => [.box [.lst tVersion x.2.1, .lst tTxn x.2.2.1, .lst tTxn x.2.2.2.1, .int .i64 x.2.2.2.2.1, .int .i64 x.2.2.2.2.2.1, .lst tTxn x.2.2.2.2.2.2]])
def vgg : q24T → Out × List AV × St := (fun z => (.ret, [.bp 0 0, .bool z.1], [.box [.lst tVersion z.2.1, .lst tTxn z.2.2.1, .lst tTxn z.2.2.2.1, .int .i64 z.2.2.2.2.1, .int .i64 z.2.2.2.2.2.1, .lst tTxn z.2.2.2.2.2.2]]))
theorem vyy (x : q24T) : exec G32.shallow ⟨0, 105, va4⟩ (vad Try.f139 5000003) (va5 ⟨0, 105, va4⟩ [1, 2] []) (va3 (va0 105) [1, 2] (vnl x)) (vnb x) = vc5 x (fun z => some ⟨(vgg z).1, (vgg z).2.1, (vgg z).2.2⟩) := by
  kernel_rfl
theorem vyt : ∀ sp, (va4 5000003) = some sp → vg5 G32.shallow ⟨0, 105, va4⟩ sp (vad Try.f139 5000003) := by
  intro sp hsp vals st k r h
  cases hsp
  dsimp only at h
  rcases vai h with ⟨p, q, rfl, rfl, h⟩ | h
  · exact vbu voh vnl vnb vgg vyy (p.2.1, q.1.1, q.1.2.1, q.1.2.2.1, q.1.2.2.2.1, q.1.2.2.2.2.1, q.1.2.2.2.2.2.1) _ k r (fun z => rfl) h
  cases h
theorem wza (a0 : (List vac)) (a1 : (List dTxn)) (a2 : (List dTxn)) (a3 : Int) (a4 : Int) (a5 : (List dTxn)) : var G32.shallow va4 Try.f139 [.agg [.lst tVersion a0, .lst tTxn a1, .lst tTxn a2, .int .i64 a3, .int .i64 a4, .lst tTxn a5]] [] = vwx ((a0, (a1, (a2, (a3, a4)))), a5) (fun (y : Bool) => some ⟨.ret, [.bool y], []⟩) := by rw [whk]; kernel_rfl
theorem wyr : vao G32.shallow ⟨0, 105, va4⟩ (Try.f139.body.getD .skip) :=
  vaf (ids := [2, 4, 5000009, 0, 5000003]) (by kernel_rfl) (by kernel_rfl) ⟨wpx, ⟨wo1, ⟨vxl, ⟨wo6, ⟨vyt, trivial⟩⟩⟩⟩⟩
theorem w3d : val Try.prog 139 wkj := by
  refine told G32_ok.shallow follows Try.func139 (c := Try.f139.body.getD .skip) (by kernel_rfl) ?_
  intro args s k r hk
  unfold wkj at hk
  rcases vag hk with ⟨p, q, rfl, rfl⟩ | hk
  · exact ⟨va4, (ws3 ((p.1.1, (p.1.2.1, (p.1.2.2.1, (p.1.2.2.2.1, p.1.2.2.2.2.1)))), p.1.2.2.2.2.2.1)).map _, wza p.1.1 p.1.2.1 p.1.2.2.1 p.1.2.2.2.1 p.1.2.2.2.2.1 p.1.2.2.2.2.2.1, wyr⟩
  cases hk
def G33 : Glob := G32.add 139 wkj
theorem G33_ok : GlobOk Try.prog G33 := G32_ok.add ⟨Try.f139, Try.func139, by kernel_rfl, by kernel_rfl⟩ w3d
def vft : Nat → Option LoopSpec
  | 5000004 => some ⟨[1, 2, 3, 4, 5], [none, none, none, none, none, none, none, none, none, none, none, some tVersion, some tTxn, some tTxn, none, none, some tTxn], fun vals st k => vam [.bp 0 0, .bp 1 0, .int .i64, .int .i64, .bp 2 0] [.box [.lst tVersion, .lst tTxn, .lst tTxn, .int .i64, .int .i64, .lst tTxn], .box [.own 3, .own 4, .own 5, .int .i64, .int .i64, .own 6], .box [.own 7, .own 8, .own 9, .int .i64, .int .i64, .own 10], .arr tVersion, .dep tTxn 0, .dep tTxn 0, .dep tTxn 0, .arr tVersion, .arr tTxn, .arr tTxn, .arr tTxn] vals st (fun p q => vdn (p.2.2.1, p.2.2.2.1, q.1.1, q.1.2.1, q.1.2.2.1, q.1.2.2.2.1, q.1.2.2.2.2.1, q.1.2.2.2.2.2.1, q.2.1.2.2.2.1, q.2.1.2.2.2.2.1, q.2.2.1.2.2.2.1, q.2.2.1.2.2.2.2.1, q.2.2.2.1, q.2.2.2.2.1, q.2.2.2.2.2.1, q.2.2.2.2.2.2.1, q.2.2.2.2.2.2.2.1, q.2.2.2.2.2.2.2.2.1, q.2.2.2.2.2.2.2.2.2.1, q.2.2.2.2.2.2.2.2.2.2.1) (fun z => k .ret [.bp 0 0, .bp 1 0, .int .i64 z.1, .int .i64 z.2.1, .bp 2 0] [.box [.lst tVersion z.2.2.1, .lst tTxn z.2.2.2.1, .lst tTxn z.2.2.2.2.1, .int .i64 z.2.2.2.2.2.1, .int .i64 z.2.2.2.2.2.2.1, .lst tTxn z.2.2.2.2.2.2.2.1], .box [.own 3, .own 4, .own 5, .int .i64 z.2.2.2.2.2.2.2.2.1, .int .i64 z.2.2.2.2.2.2.2.2.2.1, .own 6], .box [.own 3, .own 4, .own 5, .int .i64 z.2.2.2.2.2.2.2.2.2.2.1, .int .i64 z.2.2.2.2.2.2.2.2.2.2.2.1, .own 6], .arr tVersion z.2.2.2.2.2.2.2.2.2.2.2.2.1, .arr tTxn z.2.2.2.2.2.2.2.2.2.2.2.2.2.1, .arr tTxn z.2.2.2.2.2.2.2.2.2.2.2.2.2.2.1, .arr tTxn z.2.2.2.2.2.2.2.2.2.2.2.2.2.2.2]))
      (none)⟩
  | _ => none
def voa : q43T → List AV := (fun x => [.bp 0 0, .bp 1 0, .int .i64 x.1, .int .i64 x.2.1, .bp 2 0])
def vod : q43T → St := (fun x => [.box [.lst tVersion x.2.2.1, .lst tTxn x.2.2.2.1, .lst tTxn x.2.2.2.2.1, .int .i64 x.2.2.2.2.2.1, .int .i64 x.2.2.2.2.2.2.1, .lst tTxn x.2.2.2.2.2.2.2.1], .box [.own 3, .own 4, .own 5, .int .i64 x.2.2.2.2.2.2.2.2.1, .int .i64 x.2.2.2.2.2.2.2.2.2.1, .own 6], .box [.own 7, .own 8, .own 9, .int .i64 x.2.2.2.2.2.2.2.2.2.2.1, .int .i64 x.2.2.2.2.2.2.2.2.2.2.2.1, .own 10], .arr tVersion x.2.2.2.2.2.2.2.2.2.2.2.2.1, .dep tTxn x.2.2.2.2.2.2.2.2.2.2.2.2.2.1 0, .dep tTxn x.2.2.2.2.2.2.2.2.2.2.2.2.2.2.1 0, .dep tTxn x.2.2.2.2.2.2.2.2.2.2.2.2.2.2.2.1 0, .arr tVersion x.2.2.2.2.2.2.2.2.2.2.2.2.2.2.2.2.1, .arr tTxn x.2.2.2.2.2.2.2.2.2.2.2.2.2.2.2.2.2.1, .arr tTxn x.2.2.2.2.2.2.2.2.2.2.2.2.2.2.2.2.2.2.1, .arr tTxn x.2.2.2.2.2.2.2.2.2.2.2.2.2.2.2.2.2.2.2])
def vf0 : q44T → Out × List AV × St := (fun z => (.ret, [.bp 0 0, .bp 1 0, .int .i64 z.1, .int .i64 z.2.1, .bp 2 0], [.box [.lst tVersion z.2.2.1, .lst tTxn z.2.2.2.1, .lst tTxn z.2.2.2.2.1, .int .i64 z.2.2.2.2.2.1, .int .i64 z.2.2.2.2.2.2.1, .lst tTxn z.2.2.2.2.2.2.2.1], .box [.own 3, .own 4, .own 5, .int .i64 z.2.2.2.2.2.2.2.2.1, .int .i64 z.2.2.2.2.2.2.2.2.2.1, .own 6], .box [.own 3, .own 4, .own 5, .int .i64 z.2.2.2.2.2.2.2.2.2.2.1, .int .i64 z.2.2.2.2.2.2.2.2.2.2.2.1, .own 6], .arr tVersion z.2.2.2.2.2.2.2.2.2.2.2.2.1, .arr tTxn z.2.2.2.2.2.2.2.2.2.2.2.2.2.1, .arr tTxn z.2.2.2.2.2.2.2.2.2.2.2.2.2.2.1, .arr tTxn z.2.2.2.2.2.2.2.2.2.2.2.2.2.2.2]))
theorem vx3 (x : q43T) : exec G33.shallow ⟨0, 44, vft⟩ (vad Try.f57 5000004) (va5 ⟨0, 44, vft⟩ [1, 2, 3, 4, 5] [none, none, none, none, none, none, none, none, none, none, none, some tVersion, some tTxn, some tTxn, none, none, some tTxn]) (va3 (va0 44) [1, 2, 3, 4, 5] (voa x)) (vod x) = vdn x (fun z => some ⟨(vf0 z).1, (vf0 z).2.1, (vf0 z).2.2⟩) := by
  kernel_rfl
theorem vyh : ∀ sp, (vft 5000004) = some sp → vg5 G33.shallow ⟨0, 44, vft⟩ sp (vad Try.f57 5000004) := by
  intro sp hsp vals st k r h
  cases hsp
  dsimp only at h
  rcases vai h with ⟨p, q, rfl, rfl, h⟩ | h
  · exact vbu vpd voa vod vf0 vx3 (p.2.2.1, p.2.2.2.1, q.1.1, q.1.2.1, q.1.2.2.1, q.1.2.2.2.1, q.1.2.2.2.2.1, q.1.2.2.2.2.2.1, q.2.1.2.2.2.1, q.2.1.2.2.2.2.1, q.2.2.1.2.2.2.1, q.2.2.1.2.2.2.2.1, q.2.2.2.1, q.2.2.2.2.1, q.2.2.2.2.2.1, q.2.2.2.2.2.2.1, q.2.2.2.2.2.2.2.1, q.2.2.2.2.2.2.2.2.1, q.2.2.2.2.2.2.2.2.2.1, q.2.2.2.2.2.2.2.2.2.2.1) _ k r (fun z => rfl) h
  cases h
theorem wzn (a0 : (List vac)) (a1 : (List dTxn)) (a2 : (List dTxn)) (a3 : Int) (a4 : Int) (a5 : (List dTxn)) : var G33.shallow vft Try.f57 [.agg [.lst tVersion a0, .lst tTxn a1, .lst tTxn a2, .int .i64 a3, .int .i64 a4, .lst tTxn a5]] [] = vv2 ((a0, (a1, (a2, (a3, a4)))), a5) (fun (y : q46T) => some ⟨.ret, [.tup [.agg [.own 0, .own 1, .own 2, .int .i64 y.1, .int .i64 y.2.1, .own 3], .int .i64 y.2.2.1, .int .i64 y.2.2.2.1]], [.arr tVersion y.2.2.2.2.1, .arr tTxn y.2.2.2.2.2.1, .arr tTxn y.2.2.2.2.2.2.1, .arr tTxn y.2.2.2.2.2.2.2]⟩) := by rw [wls]; kernel_rfl
theorem wz5 : vao G33.shallow ⟨0, 44, vft⟩ (Try.f57.body.getD .skip) :=
  vaf (ids := [5000004]) (by kernel_rfl) (by kernel_rfl) ⟨vyh, trivial⟩
theorem wwv : val Try.prog 57 whp := by
  refine told G33_ok.shallow follows Try.func57 (c := Try.f57.body.getD .skip) (by kernel_rfl) ?_
  intro args s k r hk
  unfold whp at hk
  rcases vag hk with ⟨p, q, rfl, rfl⟩ | hk
  · exact ⟨vft, (wtm ((p.1.1, (p.1.2.1, (p.1.2.2.1, (p.1.2.2.2.1, p.1.2.2.2.2.1)))), p.1.2.2.2.2.2.1)).map _, wzn p.1.1 p.1.2.1 p.1.2.2.1 p.1.2.2.2.1 p.1.2.2.2.2.1 p.1.2.2.2.2.2.1, wz5⟩
  cases hk
def G34 : Glob := G33.add 57 whp
theorem G34_ok : GlobOk Try.prog G34 := G33_ok.add ⟨Try.f57, Try.func57, by kernel_rfl, by kernel_rfl⟩ wwv
def vso : Nat → Option LoopSpec
  | _ => none
theorem wwt (a0 : Int) (a1 : Int) (a2 : Int) (a3 : Int) (a4 : (List van)) (a5 : (List vaj)) (a6 : Bool) (a7 : ByteArray) : var G34 vso Try.f105 [.agg [.int .i64 a0, .int .i64 a1, .int .i64 a2, .int .i64 a3, .lst tRange a4, .lst tWrite a5, .bool a6, .str a7]] [] = vu8 (a0, (a1, (a2, (a3, (a4, (a5, (a6, a7))))))) (fun (y : q47T) => some ⟨.ret, [.agg [.int .i64 y.1, .int .i64 y.2.1, .int .i64 y.2.2.1, .int .i64 y.2.2.2.1, .own 0, .own 1, .bool y.2.2.2.2.1, .str y.2.2.2.2.2.1]], [.arr tRange y.2.2.2.2.2.2.1, .arr tWrite y.2.2.2.2.2.2.2]⟩) := by rw [wg0]; kernel_rfl
theorem wwb : vao G34 ⟨0, 12, vso⟩ (Try.f105.body.getD .skip) :=
  vaf (ids := []) (by kernel_rfl) (by kernel_rfl) trivial
theorem wwh : val Try.prog 105 wms := by
  refine told G34_ok follows Try.func105 (c := Try.f105.body.getD .skip) (by kernel_rfl) ?_
  intro args s k r hk
  unfold wms at hk
  rcases vag hk with ⟨p, q, rfl, rfl⟩ | hk
  · exact ⟨vso, (wso (p.1.1, (p.1.2.1, (p.1.2.2.1, (p.1.2.2.2.1, (p.1.2.2.2.2.1, (p.1.2.2.2.2.2.1, (p.1.2.2.2.2.2.2.1, p.1.2.2.2.2.2.2.2.1)))))))).map _, wwt p.1.1 p.1.2.1 p.1.2.2.1 p.1.2.2.2.1 p.1.2.2.2.2.1 p.1.2.2.2.2.2.1 p.1.2.2.2.2.2.2.1 p.1.2.2.2.2.2.2.2.1, wwb⟩
  cases hk
def G35 : Glob := G34.add 105 wms
theorem G35_ok : GlobOk Try.prog G35 := G34_ok.add ⟨Try.f105, Try.func105, by kernel_rfl, by kernel_rfl⟩ wwh
def ve9 : Nat → Option LoopSpec
  | 0 => some ⟨[3, 6, 7, 8], [some tTxn], fun vals st k => vam [.own 0, .lst tTxn, .int .i64, .int .i64] [.dep tTxn 0] vals st (fun p q => vah vlc Fuel (p.2.1, p.2.2.1, p.2.2.2.1, q.1) (fun z => k (.exit 0) [.own 0, .lst tTxn z.1, .int .i64 z.2.1, .int .i64 z.2.2.1] [.dep tTxn z.2.2.2 0]))
      (none)⟩
  | _ => none
def v6w : q8T → List AV := (fun x => [.own 0, .lst tTxn x.1, .int .i64 x.2.1, .int .i64 x.2.2.1])
def v6l : q8T → St := (fun x => [.dep tTxn x.2.2.2 0])
def v3e : q8T → Out × List AV × St := (fun z => ((.exit 0), [.own 0, .lst tTxn z.1, .int .i64 z.2.1, .int .i64 z.2.2.1], [.dep tTxn z.2.2.2 0]))
theorem wno (x : q8T) : exec G35 ⟨0, 19, ve9⟩ (vad Try.f190 0) (va5 ⟨0, 19, ve9⟩ [3, 6, 7, 8] [some tTxn]) (va3 (va0 19) [3, 6, 7, 8] (v6w x)) (v6l x) = vlc x (Sum.elim (fun y => some ⟨.norm, v6w y, v6l y⟩) fun z => some ⟨(v3e z).1, (v3e z).2.1, (v3e z).2.2⟩) := by
  kernel_rfl
theorem wps : ∀ sp, (ve9 0) = some sp → va8 G35 ⟨0, 19, ve9⟩ sp (vad Try.f190 0) := by
  intro sp hsp vals st k r h
  cases hsp
  dsimp only at h
  rcases vai h with ⟨p, q, rfl, rfl, h⟩ | h
  · exact vaq wa9 v6w v6l v3e (fun z => by (intro h; cases h)) wno Fuel (p.2.1, p.2.2.1, p.2.2.2.1, q.1) _ k r (fun z => rfl) h
  cases h
theorem w2w (a0 : (List dTxn)) : var G35 ve9 Try.f190 [.lst tTxn a0] [] = vq8 a0 (fun (y : (List dTxn)) => some ⟨.ret, [.own 0], [.dep tTxn y 0]⟩) := by rw [wlj]; kernel_rfl
theorem w0v : vao G35 ⟨0, 19, ve9⟩ (Try.f190.body.getD .skip) :=
  vaf (ids := [0]) (by kernel_rfl) (by kernel_rfl) ⟨wps, trivial⟩
theorem wyg : val Try.prog 190 wi6 := by
  refine told G35_ok follows Try.func190 (c := Try.f190.body.getD .skip) (by kernel_rfl) ?_
  intro args s k r hk
  unfold wi6 at hk
  rcases vag hk with ⟨p, q, rfl, rfl⟩ | hk
  · exact ⟨ve9, (wdf p.1).map _, w2w p.1, w0v⟩
  cases hk
def G36 : Glob := G35.add 190 wi6
theorem G36_ok : GlobOk Try.prog G36 := G35_ok.add ⟨Try.f190, Try.func190, by kernel_rfl, by kernel_rfl⟩ wyg
def vrv : Nat → Option LoopSpec
  | 2000002 => some ⟨[0, 2, 6, 8, 5, 12, 11, 14, 16, 18], [], fun _ _ _ => none⟩
  | _ => none
theorem w3h (a0 : (List vac)) (a1 : (List dTxn)) (a2 : (List dTxn)) (a3 : Int) (a4 : Int) : var G36 vrv Try.f189 [.agg [.lst tVersion a0, .lst tTxn a1, .lst tTxn a2, .int .i64 a3, .int .i64 a4]] [] = v4r (a0, (a1, (a2, (a3, a4)))) (fun (y : q45T) => some ⟨.ret, [.agg [.own 0, .own 1, .own 2, .int .i64 y.1, .int .i64 y.2.1]], [.arr tVersion y.2.2.1, .dep tTxn y.2.2.2.1 0, .dep tTxn y.2.2.2.2 0]⟩) := by rw [wml]; kernel_rfl
theorem w00 : vao G36 ⟨0, 16, vrv⟩ (Try.f189.body.getD .skip) :=
  vaf (ids := []) (by kernel_rfl) (by kernel_rfl) trivial
theorem wxp : val Try.prog 189 wi3 := by
  refine told G36_ok follows Try.func189 (c := Try.f189.body.getD .skip) (by kernel_rfl) ?_
  intro args s k r hk
  unfold wi3 at hk
  rcases vag hk with ⟨p, q, rfl, rfl⟩ | hk
  · exact ⟨vrv, (wtc (p.1.1, (p.1.2.1, (p.1.2.2.1, (p.1.2.2.2.1, p.1.2.2.2.2.1))))).map _, w3h p.1.1 p.1.2.1 p.1.2.2.1 p.1.2.2.2.1 p.1.2.2.2.2.1, w00⟩
  cases hk
def G37 : Glob := G36.add 189 wi3
theorem G37_ok : GlobOk Try.prog G37 := G36_ok.add ⟨Try.f189, Try.func189, by kernel_rfl, by kernel_rfl⟩ wxp
def vrz : Nat → Option LoopSpec
  | 2000001 => some ⟨[0, 2, 6, 8, 5, 11, 12, 14], [], fun _ _ _ => none⟩
  | _ => none
theorem w0t (a0 : (List vac)) (a1 : (List dTxn)) (a2 : (List dTxn)) (a3 : Int) (a4 : Int) (a5 : (List dTxn)) : var G37 vrz Try.f132 [.agg [.lst tVersion a0, .lst tTxn a1, .lst tTxn a2, .int .i64 a3, .int .i64 a4, .lst tTxn a5]] [] = vzd ((a0, (a1, (a2, (a3, a4)))), a5) (fun (y : q42T) => some ⟨.ret, [.agg [.own 0, .own 1, .own 2, .int .i64 y.1, .int .i64 y.2.1, .own 3]], [.arr tVersion y.2.2.1, .dep tTxn y.2.2.2.1 0, .dep tTxn y.2.2.2.2.1 0, .dep tTxn y.2.2.2.2.2 0]⟩) := by rw [wl9]; kernel_rfl
theorem wxs : vao G37 ⟨0, 10, vrz⟩ (Try.f132.body.getD .skip) :=
  vaf (ids := []) (by kernel_rfl) (by kernel_rfl) trivial
theorem wwy : val Try.prog 132 wkb := by
  refine told G37_ok follows Try.func132 (c := Try.f132.body.getD .skip) (by kernel_rfl) ?_
  intro args s k r hk
  unfold wkb at hk
  rcases vag hk with ⟨p, q, rfl, rfl⟩ | hk
  · exact ⟨vrz, (ws8 ((p.1.1, (p.1.2.1, (p.1.2.2.1, (p.1.2.2.2.1, p.1.2.2.2.2.1)))), p.1.2.2.2.2.2.1)).map _, w0t p.1.1 p.1.2.1 p.1.2.2.1 p.1.2.2.2.1 p.1.2.2.2.2.1 p.1.2.2.2.2.2.1, wxs⟩
  cases hk
def G38 : Glob := G37.add 132 wkb
theorem G38_ok : GlobOk Try.prog G38 := G37_ok.add ⟨Try.f132, Try.func132, by kernel_rfl, by kernel_rfl⟩ wwy
def vrk : Nat → Option LoopSpec
  | _ => none
theorem w1q (a0 : Int) (a1 : Int) (a2 : Int) : var G38 vrk Try.f124 [.int .i64 a0, .int .i64 a1, .int .i64 a2] [] = vde a0 a1 a2 (fun (y : Bool) => some ⟨.ret, [.bool y], []⟩) := by rw [wmm]; kernel_rfl
theorem wzh : vao G38 ⟨0, 15, vrk⟩ (Try.f124.body.getD .skip) :=
  vaf (ids := []) (by kernel_rfl) (by kernel_rfl) trivial
theorem wxv : val Try.prog 124 wis := by
  refine told G38_ok follows Try.func124 (c := Try.f124.body.getD .skip) (by kernel_rfl) ?_
  intro args s k r hk
  unfold wis at hk
  rcases vag hk with ⟨p, q, rfl, rfl⟩ | hk
  · exact ⟨vrk, (von p.1 p.2.1 p.2.2.1).map _, w1q p.1 p.2.1 p.2.2.1, wzh⟩
  cases hk
def G39 : Glob := G38.add 124 wis
theorem G39_ok : GlobOk Try.prog G39 := G38_ok.add ⟨Try.f124, Try.func124, by kernel_rfl, by kernel_rfl⟩ wxv
def ve1 : Nat → Option LoopSpec
  | 0 => some ⟨[0, 2, 3], [], fun vals st k => vam [.str, .bool, .int .i64] [] vals st (fun p q => vah vko Fuel (p.1, p.2.1, p.2.2.1) (Sum.elim (fun z => k .ret [.str z.1, .bool z.2.1, .int .i64 z.2.2] []) (fun z => k (.exit 0) [.str z.1, .bool z.2.1, .int .i64 z.2.2] [])))
      (none)⟩
  | _ => none
def v6x : (ByteArray × Bool × Int) → List AV := (fun x => [.str x.1, .bool x.2.1, .int .i64 x.2.2])
def v9a : (ByteArray × Bool × Int) → St := (fun x => [])
def v1m : ((ByteArray × Bool × Int) ⊕ (ByteArray × Bool × Int)) → Out × List AV × St := (Sum.elim (fun z => (.ret, [.str z.1, .bool z.2.1, .int .i64 z.2.2], [])) (fun z => ((.exit 0), [.str z.1, .bool z.2.1, .int .i64 z.2.2], [])))
theorem wp6 (x : (ByteArray × Bool × Int)) : exec G39 ⟨0, 23, ve1⟩ (vad Try.f126 0) (va5 ⟨0, 23, ve1⟩ [0, 2, 3] []) (va3 (va0 23) [0, 2, 3] (v6x x)) (v9a x) = vko x (Sum.elim (fun y => some ⟨.norm, v6x y, v9a y⟩) fun z => some ⟨(v1m z).1, (v1m z).2.1, (v1m z).2.2⟩) := by
  kernel_rfl
theorem wni : ∀ sp, (ve1 0) = some sp → va8 G39 ⟨0, 23, ve1⟩ sp (vad Try.f126 0) := by
  intro sp hsp vals st k r h
  cases hsp
  dsimp only at h
  rcases vai h with ⟨p, q, rfl, rfl, h⟩ | h
  · exact vaq wbj v6x v9a v1m (fun z => by rcases z with z | z <;> (intro h; cases h)) wp6 Fuel (p.1, p.2.1, p.2.2.1) _ k r (fun z => by rcases z with z | z <;> rfl) h
  cases h
theorem w3s (a0 : ByteArray) : var G39 ve1 Try.f126 [.str a0] [] = vi2 a0 (fun (y : Bool) => some ⟨.ret, [.bool y], []⟩) := by rw [wgb]; kernel_rfl
theorem w3x : vao G39 ⟨0, 23, ve1⟩ (Try.f126.body.getD .skip) :=
  vaf (ids := [0]) (by kernel_rfl) (by kernel_rfl) ⟨wni, trivial⟩
theorem wzr : val Try.prog 126 whd := by
  refine told G39_ok follows Try.func126 (c := Try.f126.body.getD .skip) (by kernel_rfl) ?_
  intro args s k r hk
  unfold whd at hk
  rcases vag hk with ⟨p, q, rfl, rfl⟩ | hk
  · exact ⟨ve1, (vz0 p.1).map _, w3s p.1, w3x⟩
  cases hk
def G40 : Glob := G39.add 126 whd
theorem G40_ok : GlobOk Try.prog G40 := G39_ok.add ⟨Try.f126, Try.func126, by kernel_rfl, by kernel_rfl⟩ wzr
def vsh : Nat → Option LoopSpec
  | _ => none
theorem wyw (a0 : ByteArray) : var G40 vsh Try.f235 [.str a0] [] = vzr a0 (fun (y : Bool) => some ⟨.ret, [.bool y], []⟩) := by rw [wij]; kernel_rfl
theorem w2z : vao G40 ⟨0, 6, vsh⟩ (Try.f235.body.getD .skip) :=
  vaf (ids := []) (by kernel_rfl) (by kernel_rfl) trivial
theorem wys : val Try.prog 235 wfw := by
  refine told G40_ok follows Try.func235 (c := Try.f235.body.getD .skip) (by kernel_rfl) ?_
  intro args s k r hk
  unfold wfw at hk
  rcases vag hk with ⟨p, q, rfl, rfl⟩ | hk
  · exact ⟨vsh, (wf8 p.1).map _, wyw p.1, w2z⟩
  cases hk
def G41 : Glob := G40.add 235 wfw
theorem G41_ok : GlobOk Try.prog G41 := G40_ok.add ⟨Try.f235, Try.func235, by kernel_rfl, by kernel_rfl⟩ wys
def vrr : Nat → Option LoopSpec
  | _ => none
theorem wwq (a0 : ByteArray) (a1 : ByteArray) : var G41 vrr Try.f240 [.str a0, .str a1] [] = vz9 a0 a1 (fun (y : Int) => some ⟨.ret, [.int .i64 y], []⟩) := by rw [wmj]; kernel_rfl
theorem w1a : vao G41 ⟨0, 20, vrr⟩ (Try.f240.body.getD .skip) :=
  vaf (ids := []) (by kernel_rfl) (by kernel_rfl) trivial
theorem wx9 : val Try.prog 240 wky := by
  refine told G41_ok follows Try.func240 (c := Try.f240.body.getD .skip) (by kernel_rfl) ?_
  intro args s k r hk
  unfold wky at hk
  rcases vag hk with ⟨p, q, rfl, rfl⟩ | hk
  · exact ⟨vrr, (wt8 p.1 p.2.1).map _, wwq p.1 p.2.1, w1a⟩
  cases hk
def G42 : Glob := G41.add 240 wky
theorem G42_ok : GlobOk Try.prog G42 := G41_ok.add ⟨Try.f240, Try.func240, by kernel_rfl, by kernel_rfl⟩ wx9
def vsb : Nat → Option LoopSpec
  | _ => none
theorem wx6 (a0 : Int) : var G42 vsb Try.f243 [.int .i64 a0] [] = v0a a0 (fun (y : Bool) => some ⟨.ret, [.bool y], []⟩) := by rw [wlf]; kernel_rfl
theorem wze : vao G42 ⟨0, 6, vsb⟩ (Try.f243.body.getD .skip) :=
  vaf (ids := []) (by kernel_rfl) (by kernel_rfl) trivial
theorem wwc : val Try.prog 243 wfv := by
  refine told G42_ok follows Try.func243 (c := Try.f243.body.getD .skip) (by kernel_rfl) ?_
  intro args s k r hk
  unfold wfv at hk
  rcases vag hk with ⟨p, q, rfl, rfl⟩ | hk
  · exact ⟨vsb, (wiz p.1).map _, wx6 p.1, wze⟩
  cases hk
def G43 : Glob := G42.add 243 wfv
theorem G43_ok : GlobOk Try.prog G43 := G42_ok.add ⟨Try.f243, Try.func243, by kernel_rfl, by kernel_rfl⟩ wwc
def vr7 : Nat → Option LoopSpec
  | _ => none
theorem ww3 (a0 : Int) (a1 : Int) : var G43 vr7 Try.f241 [.int .i64 a0, .int .i64 a1] [] = v0g a0 a1 (fun (y : Int) => some ⟨.ret, [.int .i64 y], []⟩) := by rw [wg2]; kernel_rfl
theorem wy1 : vao G43 ⟨0, 20, vr7⟩ (Try.f241.body.getD .skip) :=
  vaf (ids := []) (by kernel_rfl) (by kernel_rfl) trivial
theorem w0x : val Try.prog 241 wmd := by
  refine told G43_ok follows Try.func241 (c := Try.f241.body.getD .skip) (by kernel_rfl) ?_
  intro args s k r hk
  unfold wmd at hk
  rcases vag hk with ⟨p, q, rfl, rfl⟩ | hk
  · exact ⟨vr7, (wsw p.1 p.2.1).map _, ww3 p.1 p.2.1, wy1⟩
  cases hk
def G44 : Glob := G43.add 241 wmd
theorem G44_ok : GlobOk Try.prog G44 := G43_ok.add ⟨Try.f241, Try.func241, by kernel_rfl, by kernel_rfl⟩ w0x
def vsp : Nat → Option LoopSpec
  | _ => none
theorem wwu (a0 : ByteArray) (a1 : ByteArray) (a2 : Bool) (a3 : Int) (a4 : ByteArray) (a5 : ByteArray) (a6 : Bool) (a7 : Int) : var G44 vsp Try.f236 [.agg [.str a0, .str a1, .bool a2, .int .i64 a3], .agg [.str a4, .str a5, .bool a6, .int .i64 a7]] [] = vqu (a0, (a1, (a2, a3))) (a4, (a5, (a6, a7))) (fun (y : Int) => some ⟨.ret, [.int .i64 y], []⟩) := by rw [wgz]; kernel_rfl
theorem w06 : vao G44 ⟨0, 19, vsp⟩ (Try.f236.body.getD .skip) :=
  vaf (ids := []) (by kernel_rfl) (by kernel_rfl) trivial
theorem wym : val Try.prog 236 wiv := by
  refine told G44_ok follows Try.func236 (c := Try.f236.body.getD .skip) (by kernel_rfl) ?_
  intro args s k r hk
  unfold wiv at hk
  rcases vag hk with ⟨p, q, rfl, rfl⟩ | hk
  · exact ⟨vsp, (wit (p.1.1, (p.1.2.1, (p.1.2.2.1, p.1.2.2.2.1))) (p.2.1.1, (p.2.1.2.1, (p.2.1.2.2.1, p.2.1.2.2.2.1)))).map _, wwu p.1.1 p.1.2.1 p.1.2.2.1 p.1.2.2.2.1 p.2.1.1 p.2.1.2.1 p.2.1.2.2.1 p.2.1.2.2.2.1, w06⟩
  cases hk
def G45 : Glob := G44.add 236 wiv
theorem G45_ok : GlobOk Try.prog G45 := G44_ok.add ⟨Try.f236, Try.func236, by kernel_rfl, by kernel_rfl⟩ wym
def vfr : Nat → Option LoopSpec
  | 0 => some ⟨[0, 2, 5, 6, 7], [], fun vals st k => vam [.lst tVersion, .bool, .lst tVersion, .int .i64, .int .i64] [] vals st (fun p q => vah vj2 Fuel (p.1, p.2.1, p.2.2.1, p.2.2.2.1, p.2.2.2.2.1) (Sum.elim (fun z => k .ret [.lst tVersion z.1, .bool z.2.1, .lst tVersion z.2.2.1, .int .i64 z.2.2.2.1, .int .i64 z.2.2.2.2] []) (fun z => k (.exit 0) [.lst tVersion z.1, .bool z.2.1, .lst tVersion z.2.2.1, .int .i64 z.2.2.2.1, .int .i64 z.2.2.2.2] [])))
      (none)⟩
  | 2000004 => some ⟨[0, 2, 5, 6, 8, 10, 12, 14, 16, 18, 20, 22, 24, 26, 28, 30, 32, 34, 36, 38, 40, 42, 45, 46, 48, 50, 52, 54, 56, 58, 60, 62, 64, 66, 68, 71, 72, 74, 76], [], fun _ _ _ => none⟩
  | _ => none
def v62 : q12T → List AV := (fun x => [.lst tVersion x.1, .bool x.2.1, .lst tVersion x.2.2.1, .int .i64 x.2.2.2.1, .int .i64 x.2.2.2.2])
def v9t : q12T → St := (fun x => [])
def v2l : (q12T ⊕ q12T) → Out × List AV × St := (Sum.elim (fun z => (.ret, [.lst tVersion z.1, .bool z.2.1, .lst tVersion z.2.2.1, .int .i64 z.2.2.2.1, .int .i64 z.2.2.2.2], [])) (fun z => ((.exit 0), [.lst tVersion z.1, .bool z.2.1, .lst tVersion z.2.2.1, .int .i64 z.2.2.2.1, .int .i64 z.2.2.2.2], [])))
theorem wm7 (x : q12T) : exec G45 ⟨0, 55, vfr⟩ (vad Try.f219 0) (va5 ⟨0, 55, vfr⟩ [0, 2, 5, 6, 7] []) (va3 (va0 55) [0, 2, 5, 6, 7] (v62 x)) (v9t x) = vj2 x (Sum.elim (fun y => some ⟨.norm, v62 y, v9t y⟩) fun z => some ⟨(v2l z).1, (v2l z).2.1, (v2l z).2.2⟩) := by
  kernel_rfl
theorem wm4 : ∀ sp, (vfr 0) = some sp → va8 G45 ⟨0, 55, vfr⟩ sp (vad Try.f219 0) := by
  intro sp hsp vals st k r h
  cases hsp
  dsimp only at h
  rcases vai h with ⟨p, q, rfl, rfl, h⟩ | h
  · exact vaq wco v62 v9t v2l (fun z => by rcases z with z | z <;> (intro h; cases h)) wm7 Fuel (p.1, p.2.1, p.2.2.1, p.2.2.2.1, p.2.2.2.2.1) _ k r (fun z => by rcases z with z | z <;> rfl) h
  cases h
theorem w0n (a0 : (List vac)) : var G45 vfr Try.f219 [.lst tVersion a0] [] = vtf a0 (fun (y : Bool) => some ⟨.ret, [.bool y], []⟩) := by rw [wgk]; kernel_rfl
theorem wz8 : vao G45 ⟨0, 55, vfr⟩ (Try.f219.body.getD .skip) :=
  vaf (ids := [0]) (by kernel_rfl) (by kernel_rfl) ⟨wm4, trivial⟩
theorem wyi : val Try.prog 219 wkq := by
  refine told G45_ok follows Try.func219 (c := Try.f219.body.getD .skip) (by kernel_rfl) ?_
  intro args s k r hk
  unfold wkq at hk
  rcases vag hk with ⟨p, q, rfl, rfl⟩ | hk
  · exact ⟨vfr, (wt1 p.1).map _, w0n p.1, wz8⟩
  cases hk
def G46 : Glob := G45.add 219 wkq
theorem G46_ok : GlobOk Try.prog G46 := G45_ok.add ⟨Try.f219, Try.func219, by kernel_rfl, by kernel_rfl⟩ wyi
def vsi : Nat → Option LoopSpec
  | _ => none
theorem w01 (a0 : ByteArray) (a1 : ByteArray) : var G46 vsi Try.f106 [.agg [.str a0, .str a1]] [] = vw9 (a0, a1) (fun (y : Bool) => some ⟨.ret, [.bool y], []⟩) := by rw [wip]; kernel_rfl
theorem w1l : vao G46 ⟨0, 18, vsi⟩ (Try.f106.body.getD .skip) :=
  vaf (ids := []) (by kernel_rfl) (by kernel_rfl) trivial
theorem w1w : val Try.prog 106 wmh := by
  refine told G46_ok follows Try.func106 (c := Try.f106.body.getD .skip) (by kernel_rfl) ?_
  intro args s k r hk
  unfold wmh at hk
  rcases vag hk with ⟨p, q, rfl, rfl⟩ | hk
  · exact ⟨vsi, (wsx (p.1.1, p.1.2.1)).map _, w01 p.1.1 p.1.2.1, w1l⟩
  cases hk
def G47 : Glob := G46.add 106 wmh
theorem G47_ok : GlobOk Try.prog G47 := G46_ok.add ⟨Try.f106, Try.func106, by kernel_rfl, by kernel_rfl⟩ w1w
def vsx : Nat → Option LoopSpec
  | _ => none
theorem w3e (a0 : ByteArray) (a1 : ByteArray) (a2 : Bool) : var G47 vsx Try.f112 [.agg [.str a0, .str a1, .bool a2]] [] = vwo (a0, (a1, a2)) (fun (y : Bool) => some ⟨.ret, [.bool y], []⟩) := by rw [wkl]; kernel_rfl
theorem w0k : vao G47 ⟨0, 22, vsx⟩ (Try.f112.body.getD .skip) :=
  vaf (ids := []) (by kernel_rfl) (by kernel_rfl) trivial
theorem ww9 : val Try.prog 112 wks := by
  refine told G47_ok follows Try.func112 (c := Try.f112.body.getD .skip) (by kernel_rfl) ?_
  intro args s k r hk
  unfold wks at hk
  rcases vag hk with ⟨p, q, rfl, rfl⟩ | hk
  · exact ⟨vsx, (wt0 (p.1.1, (p.1.2.1, p.1.2.2.1))).map _, w3e p.1.1 p.1.2.1 p.1.2.2.1, w0k⟩
  cases hk
def G48 : Glob := G47.add 112 wks
theorem G48_ok : GlobOk Try.prog G48 := G47_ok.add ⟨Try.f112, Try.func112, by kernel_rfl, by kernel_rfl⟩ ww9
def ve2 : Nat → Option LoopSpec
  | 0 => some ⟨[0, 2, 5, 6, 7], [], fun vals st k => vam [.lst tWrite, .bool, .lst tWrite, .int .i64, .int .i64] [] vals st (fun p q => vah vjp Fuel (p.1, p.2.1, p.2.2.1, p.2.2.2.1, p.2.2.2.2.1) (Sum.elim (fun z => k .ret [.lst tWrite z.1, .bool z.2.1, .lst tWrite z.2.2.1, .int .i64 z.2.2.2.1, .int .i64 z.2.2.2.2] []) (fun z => k (.exit 0) [.lst tWrite z.1, .bool z.2.1, .lst tWrite z.2.2.1, .int .i64 z.2.2.2.1, .int .i64 z.2.2.2.2] [])))
      (none)⟩
  | 2000004 => some ⟨[0, 3, 4, 6, 8, 10, 12, 14, 16, 18, 20, 22, 24, 26, 28, 30, 32, 34], [], fun _ _ _ => none⟩
  | _ => none
def v6z : q17T → List AV := (fun x => [.lst tWrite x.1, .bool x.2.1, .lst tWrite x.2.2.1, .int .i64 x.2.2.2.1, .int .i64 x.2.2.2.2])
def v71 : q17T → St := (fun x => [])
def v3c : (q17T ⊕ q17T) → Out × List AV × St := (Sum.elim (fun z => (.ret, [.lst tWrite z.1, .bool z.2.1, .lst tWrite z.2.2.1, .int .i64 z.2.2.2.1, .int .i64 z.2.2.2.2], [])) (fun z => ((.exit 0), [.lst tWrite z.1, .bool z.2.1, .lst tWrite z.2.2.1, .int .i64 z.2.2.2.1, .int .i64 z.2.2.2.2], [])))
theorem wrn (x : q17T) : exec G48 ⟨0, 34, ve2⟩ (vad Try.f125 0) (va5 ⟨0, 34, ve2⟩ [0, 2, 5, 6, 7] []) (va3 (va0 34) [0, 2, 5, 6, 7] (v6z x)) (v71 x) = vjp x (Sum.elim (fun y => some ⟨.norm, v6z y, v71 y⟩) fun z => some ⟨(v3c z).1, (v3c z).2.1, (v3c z).2.2⟩) := by
  kernel_rfl
theorem wp0 : ∀ sp, (ve2 0) = some sp → va8 G48 ⟨0, 34, ve2⟩ sp (vad Try.f125 0) := by
  intro sp hsp vals st k r h
  cases hsp
  dsimp only at h
  rcases vai h with ⟨p, q, rfl, rfl, h⟩ | h
  · exact vaq wd3 v6z v71 v3c (fun z => by rcases z with z | z <;> (intro h; cases h)) wrn Fuel (p.1, p.2.1, p.2.2.1, p.2.2.2.1, p.2.2.2.2.1) _ k r (fun z => by rcases z with z | z <;> rfl) h
  cases h
theorem w1h (a0 : (List vaj)) : var G48 ve2 Try.f125 [.lst tWrite a0] [] = vtt a0 (fun (y : Bool) => some ⟨.ret, [.bool y], []⟩) := by rw [wli]; kernel_rfl
theorem w2x : vao G48 ⟨0, 34, ve2⟩ (Try.f125.body.getD .skip) :=
  vaf (ids := [0]) (by kernel_rfl) (by kernel_rfl) ⟨wp0, trivial⟩
theorem wwr : val Try.prog 125 wid := by
  refine told G48_ok follows Try.func125 (c := Try.f125.body.getD .skip) (by kernel_rfl) ?_
  intro args s k r hk
  unfold wid at hk
  rcases vag hk with ⟨p, q, rfl, rfl⟩ | hk
  · exact ⟨ve2, (wt6 p.1).map _, w1h p.1, w2x⟩
  cases hk
def G49 : Glob := G48.add 125 wid
theorem G49_ok : GlobOk Try.prog G49 := G48_ok.add ⟨Try.f125, Try.func125, by kernel_rfl, by kernel_rfl⟩ wwr
def vb0 : Nat → Option LoopSpec
  | 5000011 => some ⟨[1, 2], [], fun vals st k => vam [.bp 0 0, .bool] [.box [.int .i64, .int .i64, .int .i64, .int .i64, .lst tRange, .lst tWrite, .bool, .str]] vals st (fun p q => vb3 (p.2.1, q.1.1, q.1.2.1, q.1.2.2.1, q.1.2.2.2.1, q.1.2.2.2.2.1, q.1.2.2.2.2.2.1, q.1.2.2.2.2.2.2.1, q.1.2.2.2.2.2.2.2.1) (fun z => k .ret [.bp 0 0, .bool z.1] [.box [.int .i64 z.2.1, .int .i64 z.2.2.1, .int .i64 z.2.2.2.1, .int .i64 z.2.2.2.2.1, .lst tRange z.2.2.2.2.2.1, .lst tWrite z.2.2.2.2.2.2.1, .bool z.2.2.2.2.2.2.2.1, .str z.2.2.2.2.2.2.2.2]]))
      (none)⟩
  | 5000009 => some ⟨[1, 2], [], fun vals st k => vam [.bp 0 0, .bool] [.box [.int .i64, .int .i64, .int .i64, .int .i64, .lst tRange, .lst tWrite, .bool, .str]] vals st (fun p q => vcl (p.2.1, q.1.1, q.1.2.1, q.1.2.2.1, q.1.2.2.2.1, q.1.2.2.2.2.1, q.1.2.2.2.2.2.1, q.1.2.2.2.2.2.2.1, q.1.2.2.2.2.2.2.2.1) (fun z => k .ret [.bp 0 0, .bool z.1] [.box [.int .i64 z.2.1, .int .i64 z.2.2.1, .int .i64 z.2.2.2.1, .int .i64 z.2.2.2.2.1, .lst tRange z.2.2.2.2.2.1, .lst tWrite z.2.2.2.2.2.2.1, .bool z.2.2.2.2.2.2.2.1, .str z.2.2.2.2.2.2.2.2]]))
      (none)⟩
  | 0 => some ⟨[1, 2, 6, 7, 8], [], fun vals st k => vam [.bp 0 0, .bool, .lst tRange, .int .i64, .int .i64] [.box [.int .i64, .int .i64, .int .i64, .int .i64, .lst tRange, .lst tWrite, .bool, .str]] vals st (fun p q => vah vkn Fuel (p.2.1, p.2.2.1, p.2.2.2.1, p.2.2.2.2.1, q.1.1, q.1.2.1, q.1.2.2.1, q.1.2.2.2.1, q.1.2.2.2.2.1, q.1.2.2.2.2.2.1, q.1.2.2.2.2.2.2.1, q.1.2.2.2.2.2.2.2.1) (Sum.elim (fun z => k .ret [.bp 0 0, .bool z.1, .lst tRange z.2.1, .int .i64 z.2.2.1, .int .i64 z.2.2.2.1] [.box [.int .i64 z.2.2.2.2.1, .int .i64 z.2.2.2.2.2.1, .int .i64 z.2.2.2.2.2.2.1, .int .i64 z.2.2.2.2.2.2.2.1, .lst tRange z.2.2.2.2.2.2.2.2.1, .lst tWrite z.2.2.2.2.2.2.2.2.2.1, .bool z.2.2.2.2.2.2.2.2.2.2.1, .str z.2.2.2.2.2.2.2.2.2.2.2]]) (fun z => k (.exit 0) [.bp 0 0, .bool z.1, .lst tRange z.2.1, .int .i64 z.2.2.1, .int .i64 z.2.2.2.1] [.box [.int .i64 z.2.2.2.2.1, .int .i64 z.2.2.2.2.2.1, .int .i64 z.2.2.2.2.2.2.1, .int .i64 z.2.2.2.2.2.2.2.1, .lst tRange z.2.2.2.2.2.2.2.2.1, .lst tWrite z.2.2.2.2.2.2.2.2.2.1, .bool z.2.2.2.2.2.2.2.2.2.2.1, .str z.2.2.2.2.2.2.2.2.2.2.2]])))
      (none)⟩
  | _ => none
def vo7 : q36T → List AV := (fun x => [.bp 0 0, .bool x.1])
def voz : q36T → St := (fun x => [.box [.int .i64 x.2.1, .int .i64 x.2.2.1, .int .i64 x.2.2.2.1, .int .i64 x.2.2.2.2.1, .lst tRange x.2.2.2.2.2.1, .lst tWrite x.2.2.2.2.2.2.1, .bool x.2.2.2.2.2.2.2.1, .str x.2.2.2.2.2.2.2.2]])
def vf3 : q36T → Out × List AV × St := (fun z => (.ret, [.bp 0 0, .bool z.1], [.box [.int .i64 z.2.1, .int .i64 z.2.2.1, .int .i64 z.2.2.2.1, .int .i64 z.2.2.2.2.1, .lst tRange z.2.2.2.2.2.1, .lst tWrite z.2.2.2.2.2.2.1, .bool z.2.2.2.2.2.2.2.1, .str z.2.2.2.2.2.2.2.2]]))
theorem vxp (x : q36T) : exec G49 ⟨0, 93, vb0⟩ (vad Try.f45 5000011) (va5 ⟨0, 93, vb0⟩ [1, 2] []) (va3 (va0 93) [1, 2] (vo7 x)) (voz x) = vb3 x (fun z => some ⟨(vf3 z).1, (vf3 z).2.1, (vf3 z).2.2⟩) := by
  kernel_rfl
theorem vy7 : ∀ sp, (vb0 5000011) = some sp → vg5 G49 ⟨0, 93, vb0⟩ sp (vad Try.f45 5000011) := by
  intro sp hsp vals st k r h
  cases hsp
  dsimp only at h
  rcases vai h with ⟨p, q, rfl, rfl, h⟩ | h
  · exact vbu vd4 vo7 voz vf3 vxp (p.2.1, q.1.1, q.1.2.1, q.1.2.2.1, q.1.2.2.2.1, q.1.2.2.2.2.1, q.1.2.2.2.2.2.1, q.1.2.2.2.2.2.2.1, q.1.2.2.2.2.2.2.2.1) _ k r (fun z => rfl) h
  cases h
def vni : q36T → List AV := (fun x => [.bp 0 0, .bool x.1])
def vna : q36T → St := (fun x => [.box [.int .i64 x.2.1, .int .i64 x.2.2.1, .int .i64 x.2.2.2.1, .int .i64 x.2.2.2.2.1, .lst tRange x.2.2.2.2.2.1, .lst tWrite x.2.2.2.2.2.2.1, .bool x.2.2.2.2.2.2.2.1, .str x.2.2.2.2.2.2.2.2]])
def vgl : q36T → Out × List AV × St := (fun z => (.ret, [.bp 0 0, .bool z.1], [.box [.int .i64 z.2.1, .int .i64 z.2.2.1, .int .i64 z.2.2.2.1, .int .i64 z.2.2.2.2.1, .lst tRange z.2.2.2.2.2.1, .lst tWrite z.2.2.2.2.2.2.1, .bool z.2.2.2.2.2.2.2.1, .str z.2.2.2.2.2.2.2.2]]))
theorem vy1 (x : q36T) : exec G49 ⟨0, 93, vb0⟩ (vad Try.f45 5000009) (va5 ⟨0, 93, vb0⟩ [1, 2] []) (va3 (va0 93) [1, 2] (vni x)) (vna x) = vcl x (fun z => some ⟨(vgl z).1, (vgl z).2.1, (vgl z).2.2⟩) := by
  kernel_rfl
theorem vyw : ∀ sp, (vb0 5000009) = some sp → vg5 G49 ⟨0, 93, vb0⟩ sp (vad Try.f45 5000009) := by
  intro sp hsp vals st k r h
  cases hsp
  dsimp only at h
  rcases vai h with ⟨p, q, rfl, rfl, h⟩ | h
  · exact vbu viw vni vna vgl vy1 (p.2.1, q.1.1, q.1.2.1, q.1.2.2.1, q.1.2.2.2.1, q.1.2.2.2.2.1, q.1.2.2.2.2.2.1, q.1.2.2.2.2.2.2.1, q.1.2.2.2.2.2.2.2.1) _ k r (fun z => rfl) h
  cases h
def v7m : q20T → List AV := (fun x => [.bp 0 0, .bool x.1, .lst tRange x.2.1, .int .i64 x.2.2.1, .int .i64 x.2.2.2.1])
def v8w : q20T → St := (fun x => [.box [.int .i64 x.2.2.2.2.1, .int .i64 x.2.2.2.2.2.1, .int .i64 x.2.2.2.2.2.2.1, .int .i64 x.2.2.2.2.2.2.2.1, .lst tRange x.2.2.2.2.2.2.2.2.1, .lst tWrite x.2.2.2.2.2.2.2.2.2.1, .bool x.2.2.2.2.2.2.2.2.2.2.1, .str x.2.2.2.2.2.2.2.2.2.2.2]])
def v03 : (q20T ⊕ q20T) → Out × List AV × St := (Sum.elim (fun z => (.ret, [.bp 0 0, .bool z.1, .lst tRange z.2.1, .int .i64 z.2.2.1, .int .i64 z.2.2.2.1], [.box [.int .i64 z.2.2.2.2.1, .int .i64 z.2.2.2.2.2.1, .int .i64 z.2.2.2.2.2.2.1, .int .i64 z.2.2.2.2.2.2.2.1, .lst tRange z.2.2.2.2.2.2.2.2.1, .lst tWrite z.2.2.2.2.2.2.2.2.2.1, .bool z.2.2.2.2.2.2.2.2.2.2.1, .str z.2.2.2.2.2.2.2.2.2.2.2]])) (fun z => ((.exit 0), [.bp 0 0, .bool z.1, .lst tRange z.2.1, .int .i64 z.2.2.1, .int .i64 z.2.2.2.1], [.box [.int .i64 z.2.2.2.2.1, .int .i64 z.2.2.2.2.2.1, .int .i64 z.2.2.2.2.2.2.1, .int .i64 z.2.2.2.2.2.2.2.1, .lst tRange z.2.2.2.2.2.2.2.2.1, .lst tWrite z.2.2.2.2.2.2.2.2.2.1, .bool z.2.2.2.2.2.2.2.2.2.2.1, .str z.2.2.2.2.2.2.2.2.2.2.2]])))
theorem wrg (x : q20T) : exec G49 ⟨0, 93, vb0⟩ (vad Try.f45 0) (va5 ⟨0, 93, vb0⟩ [1, 2, 6, 7, 8] []) (va3 (va0 93) [1, 2, 6, 7, 8] (v7m x)) (v8w x) = vkn x (Sum.elim (fun y => some ⟨.norm, v7m y, v8w y⟩) fun z => some ⟨(v03 z).1, (v03 z).2.1, (v03 z).2.2⟩) := by
  kernel_rfl
theorem wmz : ∀ sp, (vb0 0) = some sp → va8 G49 ⟨0, 93, vb0⟩ sp (vad Try.f45 0) := by
  intro sp hsp vals st k r h
  cases hsp
  dsimp only at h
  rcases vai h with ⟨p, q, rfl, rfl, h⟩ | h
  · exact vaq way v7m v8w v03 (fun z => by rcases z with z | z <;> (intro h; cases h)) wrg Fuel (p.2.1, p.2.2.1, p.2.2.2.1, p.2.2.2.2.1, q.1.1, q.1.2.1, q.1.2.2.1, q.1.2.2.2.1, q.1.2.2.2.2.1, q.1.2.2.2.2.2.1, q.1.2.2.2.2.2.2.1, q.1.2.2.2.2.2.2.2.1) _ k r (fun z => by rcases z with z | z <;> rfl) h
  cases h
theorem w05 (a0 : Int) (a1 : Int) (a2 : Int) (a3 : Int) (a4 : (List van)) (a5 : (List vaj)) (a6 : Bool) (a7 : ByteArray) : var G49 vb0 Try.f45 [.agg [.int .i64 a0, .int .i64 a1, .int .i64 a2, .int .i64 a3, .lst tRange a4, .lst tWrite a5, .bool a6, .str a7]] [] = vlf (a0, (a1, (a2, (a3, (a4, (a5, (a6, a7))))))) (fun (y : Bool) => some ⟨.ret, [.bool y], []⟩) := by rw [wf1]; kernel_rfl
theorem w3q : vao G49 ⟨0, 93, vb0⟩ (Try.f45.body.getD .skip) :=
  vaf (ids := [5000011, 5000009, 0]) (by kernel_rfl) (by kernel_rfl) ⟨vy7, ⟨vyw, ⟨wmz, trivial⟩⟩⟩
theorem w04 : val Try.prog 45 whg := by
  refine told G49_ok follows Try.func45 (c := Try.f45.body.getD .skip) (by kernel_rfl) ?_
  intro args s k r hk
  unfold whg at hk
  rcases vag hk with ⟨p, q, rfl, rfl⟩ | hk
  · exact ⟨vb0, (wbb (p.1.1, (p.1.2.1, (p.1.2.2.1, (p.1.2.2.2.1, (p.1.2.2.2.2.1, (p.1.2.2.2.2.2.1, (p.1.2.2.2.2.2.2.1, p.1.2.2.2.2.2.2.2.1)))))))).map _, w05 p.1.1 p.1.2.1 p.1.2.2.1 p.1.2.2.2.1 p.1.2.2.2.2.1 p.1.2.2.2.2.2.1 p.1.2.2.2.2.2.2.1 p.1.2.2.2.2.2.2.2.1, w3q⟩
  cases hk
def G50 : Glob := G49.add 45 whg
theorem G50_ok : GlobOk Try.prog G50 := G49_ok.add ⟨Try.f45, Try.func45, by kernel_rfl, by kernel_rfl⟩ w04
def vst : Nat → Option LoopSpec
  | _ => none
theorem wz4 (a0 : Int) (a1 : Int) (a2 : Int) (a3 : Int) (a4 : (List van)) (a5 : (List vaj)) (a6 : Bool) (a7 : ByteArray) : var G50 vst Try.f160 [.agg [.int .i64 a0, .int .i64 a1, .int .i64 a2, .int .i64 a3, .lst tRange a4, .lst tWrite a5, .bool a6, .str a7]] [] = vvu (a0, (a1, (a2, (a3, (a4, (a5, (a6, a7))))))) (fun (y : Bool) => some ⟨.ret, [.bool y], []⟩) := by rw [wkx]; kernel_rfl
theorem wws : vao G50 ⟨0, 6, vst⟩ (Try.f160.body.getD .skip) :=
  vaf (ids := []) (by kernel_rfl) (by kernel_rfl) trivial
theorem wxi : val Try.prog 160 wlb := by
  refine told G50_ok follows Try.func160 (c := Try.f160.body.getD .skip) (by kernel_rfl) ?_
  intro args s k r hk
  unfold wlb at hk
  rcases vag hk with ⟨p, q, rfl, rfl⟩ | hk
  · exact ⟨vst, (wsp (p.1.1, (p.1.2.1, (p.1.2.2.1, (p.1.2.2.2.1, (p.1.2.2.2.2.1, (p.1.2.2.2.2.2.1, (p.1.2.2.2.2.2.2.1, p.1.2.2.2.2.2.2.2.1)))))))).map _, wz4 p.1.1 p.1.2.1 p.1.2.2.1 p.1.2.2.2.1 p.1.2.2.2.2.1 p.1.2.2.2.2.2.1 p.1.2.2.2.2.2.2.1 p.1.2.2.2.2.2.2.2.1, wws⟩
  cases hk
def G51 : Glob := G50.add 160 wlb
theorem G51_ok : GlobOk Try.prog G51 := G50_ok.add ⟨Try.f160, Try.func160, by kernel_rfl, by kernel_rfl⟩ wxi
def vrp : Nat → Option LoopSpec
  | _ => none
theorem wvz (a0 : Int) (a1 : Int) (a2 : Int) (a3 : Int) (a4 : (List van)) (a5 : (List vaj)) (a6 : Bool) (a7 : ByteArray) : var G51 vrp Try.f161 [.agg [.int .i64 a0, .int .i64 a1, .int .i64 a2, .int .i64 a3, .lst tRange a4, .lst tWrite a5, .bool a6, .str a7]] [] = vwn (a0, (a1, (a2, (a3, (a4, (a5, (a6, a7))))))) (fun (y : Bool) => some ⟨.ret, [.bool y], []⟩) := by rw [whb]; kernel_rfl
theorem w2q : vao G51 ⟨0, 6, vrp⟩ (Try.f161.body.getD .skip) :=
  vaf (ids := []) (by kernel_rfl) (by kernel_rfl) trivial
theorem w0b : val Try.prog 161 wfz := by
  refine told G51_ok follows Try.func161 (c := Try.f161.body.getD .skip) (by kernel_rfl) ?_
  intro args s k r hk
  unfold wfz at hk
  rcases vag hk with ⟨p, q, rfl, rfl⟩ | hk
  · exact ⟨vrp, (wtb (p.1.1, (p.1.2.1, (p.1.2.2.1, (p.1.2.2.2.1, (p.1.2.2.2.2.1, (p.1.2.2.2.2.2.1, (p.1.2.2.2.2.2.2.1, p.1.2.2.2.2.2.2.2.1)))))))).map _, wvz p.1.1 p.1.2.1 p.1.2.2.1 p.1.2.2.2.1 p.1.2.2.2.2.1 p.1.2.2.2.2.2.1 p.1.2.2.2.2.2.2.1 p.1.2.2.2.2.2.2.2.1, w2q⟩
  cases hk
def G52 : Glob := G51.add 161 wfz
theorem G52_ok : GlobOk Try.prog G52 := G51_ok.add ⟨Try.f161, Try.func161, by kernel_rfl, by kernel_rfl⟩ w0b
def vsk : Nat → Option LoopSpec
  | 3000000 => some ⟨[], [some tTxn], fun _ _ _ => none⟩
  | _ => none
theorem w23 (a0 : Int) : var G52 vsk Try.f228 [.nilS, .int .i64 a0] [] = vu2 a0 (Sum.elim (fun (y : (List dTxn)) => some ⟨.ret, [.own 0], [.arr tTxn y]⟩) (fun (y : (List dTxn)) => some ⟨.ret, [.own 0], [.dep tTxn y 0]⟩)) := by rw [wil]; kernel_rfl
theorem w3m : vao G52 ⟨0, 27, vsk⟩ (Try.f228.body.getD .skip) :=
  vaf (ids := []) (by kernel_rfl) (by kernel_rfl) trivial
theorem vrq : val Try.prog 228 vfa := by
  refine told G52_ok follows Try.func228 (c := Try.f228.body.getD .skip) (by kernel_rfl) ?_
  intro args s k r hk
  unfold vfa at hk
  rcases vag hk with ⟨p, q, rfl, rfl⟩ | hk
  · exact ⟨vsk, (wuf p.2.1).map2 _ _, w23 p.2.1, w3m⟩
  cases hk
def G53 : Glob := G52.add 228 vfa
theorem G53_ok : GlobOk Try.prog G53 := G52_ok.add ⟨Try.f228, Try.func228, by kernel_rfl, by kernel_rfl⟩ vrq
def vcu : Nat → Option LoopSpec
  | 0 => some ⟨[0, 3, 9, 10, 11], [], fun vals st k => vam [.lst (.slice tTxn), .int .i64, .lst (.slice tTxn), .int .i64, .int .i64] [] vals st (fun p q => vah vk4 Fuel (p.1, p.2.1, p.2.2.1, p.2.2.2.1, p.2.2.2.2.1) (fun z => k (.exit 0) [.lst (.slice tTxn) z.1, .int .i64 z.2.1, .lst (.slice tTxn) z.2.2.1, .int .i64 z.2.2.2.1, .int .i64 z.2.2.2.2] []))
      (none)⟩
  | 2 => some ⟨[6, 25, 26, 27], [], fun vals st k => vam [.own 0, .lst (.slice tTxn), .int .i64, .int .i64] [.arr tTxn] vals st (fun p q => vah ved Fuel (.inl (p.2.1, p.2.2.1, p.2.2.2.1, q.1)) (Sum.elim (fun z => k (.exit 2) [.own 0, .lst (.slice tTxn) z.1, .int .i64 z.2.1, .int .i64 z.2.2.1] [.arr tTxn z.2.2.2]) (fun z => k (.exit 2) [.own 0, .lst (.slice tTxn) z.1, .int .i64 z.2.1, .int .i64 z.2.2.1] [.dep tTxn z.2.2.2 0])))
      (vam [.own 0, .lst (.slice tTxn), .int .i64, .int .i64] [.dep tTxn 0] vals st (fun p q => vah ved Fuel (.inr (p.2.1, p.2.2.1, p.2.2.2.1, q.1)) (Sum.elim (fun z => k (.exit 2) [.own 0, .lst (.slice tTxn) z.1, .int .i64 z.2.1, .int .i64 z.2.2.1] [.arr tTxn z.2.2.2]) (fun z => k (.exit 2) [.own 0, .lst (.slice tTxn) z.1, .int .i64 z.2.1, .int .i64 z.2.2.1] [.dep tTxn z.2.2.2 0])))
      (none))⟩
  | _ => none
def v8u : q0T → List AV := (fun x => [.lst (.slice tTxn) x.1, .int .i64 x.2.1, .lst (.slice tTxn) x.2.2.1, .int .i64 x.2.2.2.1, .int .i64 x.2.2.2.2])
def v7o : q0T → St := (fun x => [])
def v22 : q0T → Out × List AV × St := (fun z => ((.exit 0), [.lst (.slice tTxn) z.1, .int .i64 z.2.1, .lst (.slice tTxn) z.2.2.1, .int .i64 z.2.2.2.1, .int .i64 z.2.2.2.2], []))
theorem wnb (x : q0T) : exec G53 ⟨0, 36, vcu⟩ (vad Try.f197 0) (va5 ⟨0, 36, vcu⟩ [0, 3, 9, 10, 11] []) (va3 (va0 36) [0, 3, 9, 10, 11] (v8u x)) (v7o x) = vk4 x (Sum.elim (fun y => some ⟨.norm, v8u y, v7o y⟩) fun z => some ⟨(v22 z).1, (v22 z).2.1, (v22 z).2.2⟩) := by
  kernel_rfl
theorem wr9 : ∀ sp, (vcu 0) = some sp → va8 G53 ⟨0, 36, vcu⟩ sp (vad Try.f197 0) := by
  intro sp hsp vals st k r h
  cases hsp
  dsimp only at h
  rcases vai h with ⟨p, q, rfl, rfl, h⟩ | h
  · exact vaq wdl v8u v7o v22 (fun z => by (intro h; cases h)) wnb Fuel (p.1, p.2.1, p.2.2.1, p.2.2.2.1, p.2.2.2.2.1) _ k r (fun z => rfl) h
  cases h
def v2w : (q1T ⊕ q1T) → List AV := (Sum.elim (fun x => [.own 0, .lst (.slice tTxn) x.1, .int .i64 x.2.1, .int .i64 x.2.2.1]) (fun x => [.own 0, .lst (.slice tTxn) x.1, .int .i64 x.2.1, .int .i64 x.2.2.1]))
def v02 : (q1T ⊕ q1T) → St := (Sum.elim (fun x => [.arr tTxn x.2.2.2]) (fun x => [.dep tTxn x.2.2.2 0]))
def vwg : (q1T ⊕ q1T) → Out × List AV × St := (Sum.elim (fun z => ((.exit 2), [.own 0, .lst (.slice tTxn) z.1, .int .i64 z.2.1, .int .i64 z.2.2.1], [.arr tTxn z.2.2.2])) (fun z => ((.exit 2), [.own 0, .lst (.slice tTxn) z.1, .int .i64 z.2.1, .int .i64 z.2.2.1], [.dep tTxn z.2.2.2 0])))
theorem wd5 (x : (q1T ⊕ q1T)) : exec G53 ⟨0, 36, vcu⟩ (vad Try.f197 2) (va5 ⟨0, 36, vcu⟩ [6, 25, 26, 27] []) (va3 (va0 36) [6, 25, 26, 27] (v2w x)) (v02 x) = ved x (Sum.elim (fun y => some ⟨.norm, v2w y, v02 y⟩) fun z => some ⟨(vwg z).1, (vwg z).2.1, (vwg z).2.2⟩) := by
  rcases x with x | x <;> kernel_rfl
theorem wox : ∀ sp, (vcu 2) = some sp → va8 G53 ⟨0, 36, vcu⟩ sp (vad Try.f197 2) := by
  intro sp hsp vals st k r h
  cases hsp
  dsimp only at h
  rcases vai h with ⟨p, q, rfl, rfl, h⟩ | h
  · exact vaq vuc v2w v02 vwg (fun z => by rcases z with z | z <;> (intro h; cases h)) wd5 Fuel (.inl (p.2.1, p.2.2.1, p.2.2.2.1, q.1)) _ k r (fun z => by rcases z with z | z <;> rfl) h
  rcases vai h with ⟨p, q, rfl, rfl, h⟩ | h
  · exact vaq vuc v2w v02 vwg (fun z => by rcases z with z | z <;> (intro h; cases h)) wd5 Fuel (.inr (p.2.1, p.2.2.1, p.2.2.2.1, q.1)) _ k r (fun z => by rcases z with z | z <;> rfl) h
  cases h
theorem wxm (a0 : (List (List dTxn))) : var G53 vcu Try.f197 [.lst (.slice tTxn) a0] [] = vli a0 (Sum.elim (fun (y : (List dTxn)) => some ⟨.ret, [.own 0], [.arr tTxn y]⟩) (fun (y : (List dTxn)) => some ⟨.ret, [.own 0], [.dep tTxn y 0]⟩)) := by rw [wgr]; kernel_rfl
theorem w1y : vao G53 ⟨0, 36, vcu⟩ (Try.f197.body.getD .skip) :=
  vaf (ids := [0, 2]) (by kernel_rfl) (by kernel_rfl) ⟨wr9, ⟨wox, trivial⟩⟩
theorem w26 : val Try.prog 197 wmr := by
  refine told G53_ok follows Try.func197 (c := Try.f197.body.getD .skip) (by kernel_rfl) ?_
  intro args s k r hk
  unfold wmr at hk
  rcases vag hk with ⟨p, q, rfl, rfl⟩ | hk
  · exact ⟨vcu, (wh4 p.1).map2 _ _, wxm p.1, w1y⟩
  cases hk
def G54 : Glob := G53.add 197 wmr
theorem G54_ok : GlobOk Try.prog G54 := G53_ok.add ⟨Try.f197, Try.func197, by kernel_rfl, by kernel_rfl⟩ w26
def vsc : Nat → Option LoopSpec
  | _ => none
theorem wv0 (a0 : Int) (a1 : Int) (a2 : Int) (a3 : Int) (a4 : (List van)) (a5 : (List vaj)) (a6 : Bool) (a7 : ByteArray) (a8 : Int) (a9 : Int) (a10 : Int) (a11 : Int) (a12 : (List van)) (a13 : (List vaj)) (a14 : Bool) (a15 : ByteArray) : var G54 vsc Try.f227 [.agg [.int .i64 a0, .int .i64 a1, .int .i64 a2, .int .i64 a3, .lst tRange a4, .lst tWrite a5, .bool a6, .str a7], .bp 0 0] [.box [.int .i64 a8, .int .i64 a9, .int .i64 a10, .int .i64 a11, .lst tRange a12, .lst tWrite a13, .bool a14, .str a15]] = vux (a0, (a1, (a2, (a3, (a4, (a5, (a6, a7))))))) a8 a9 a10 a11 a12 a13 a14 a15 (fun (y : q36T) => some ⟨.ret, [.bool y.1], [.box [.int .i64 y.2.1, .int .i64 y.2.2.1, .int .i64 y.2.2.2.1, .int .i64 y.2.2.2.2.1, .lst tRange y.2.2.2.2.2.1, .lst tWrite y.2.2.2.2.2.2.1, .bool y.2.2.2.2.2.2.2.1, .str y.2.2.2.2.2.2.2.2]]⟩) := by rw [wl3]; kernel_rfl
theorem wya : vao G54 ⟨1, 9, vsc⟩ (Try.f227.body.getD .skip) :=
  vaf (ids := []) (by kernel_rfl) (by kernel_rfl) trivial
theorem wxw : val Try.prog 227 wha := by
  refine told G54_ok follows Try.func227 (c := Try.f227.body.getD .skip) (by kernel_rfl) ?_
  intro args s k r hk
  unfold wha at hk
  rcases vag hk with ⟨p, q, rfl, rfl⟩ | hk
  · exact ⟨vsc, (wtt (p.1.1, (p.1.2.1, (p.1.2.2.1, (p.1.2.2.2.1, (p.1.2.2.2.2.1, (p.1.2.2.2.2.2.1, (p.1.2.2.2.2.2.2.1, p.1.2.2.2.2.2.2.2.1))))))) q.1.1 q.1.2.1 q.1.2.2.1 q.1.2.2.2.1 q.1.2.2.2.2.1 q.1.2.2.2.2.2.1 q.1.2.2.2.2.2.2.1 q.1.2.2.2.2.2.2.2.1).map _, wv0 p.1.1 p.1.2.1 p.1.2.2.1 p.1.2.2.2.1 p.1.2.2.2.2.1 p.1.2.2.2.2.2.1 p.1.2.2.2.2.2.2.1 p.1.2.2.2.2.2.2.2.1 q.1.1 q.1.2.1 q.1.2.2.1 q.1.2.2.2.1 q.1.2.2.2.2.1 q.1.2.2.2.2.2.1 q.1.2.2.2.2.2.2.1 q.1.2.2.2.2.2.2.2.1, wya⟩
  cases hk
def G55 : Glob := G54.add 227 wha
theorem G55_ok : GlobOk Try.prog G55 := G54_ok.add ⟨Try.f227, Try.func227, by kernel_rfl, by kernel_rfl⟩ wxw
def vfx : Nat → Option LoopSpec
  | 0 => some ⟨[0, 1, 4, 7, 8], [], fun vals st k => vam [.lst tTxn, .fn 227 [.bp 0 0], .int .i64, .int .i64, .int .i64] [.box [.int .i64, .int .i64, .int .i64, .int .i64, .lst tRange, .lst tWrite, .bool, .str]] vals st (fun p q => vah vjn Fuel (p.1, p.2.2.1, p.2.2.2.1, p.2.2.2.2.1, q.1.1, q.1.2.1, q.1.2.2.1, q.1.2.2.2.1, q.1.2.2.2.2.1, q.1.2.2.2.2.2.1, q.1.2.2.2.2.2.2.1, q.1.2.2.2.2.2.2.2.1) (Sum.elim (fun z => k .ret [.lst tTxn z.1, .fn 227 [.bp 0 0], .int .i64 z.2.1, .int .i64 z.2.2.1, .int .i64 z.2.2.2.1] [.box [.int .i64 z.2.2.2.2.1, .int .i64 z.2.2.2.2.2.1, .int .i64 z.2.2.2.2.2.2.1, .int .i64 z.2.2.2.2.2.2.2.1, .lst tRange z.2.2.2.2.2.2.2.2.1, .lst tWrite z.2.2.2.2.2.2.2.2.2.1, .bool z.2.2.2.2.2.2.2.2.2.2.1, .str z.2.2.2.2.2.2.2.2.2.2.2]]) (fun z => k (.exit 0) [.lst tTxn z.1, .fn 227 [.bp 0 0], .int .i64 z.2.1, .int .i64 z.2.2.1, .int .i64 z.2.2.2.1] [.box [.int .i64 z.2.2.2.2.1, .int .i64 z.2.2.2.2.2.1, .int .i64 z.2.2.2.2.2.2.1, .int .i64 z.2.2.2.2.2.2.2.1, .lst tRange z.2.2.2.2.2.2.2.2.1, .lst tWrite z.2.2.2.2.2.2.2.2.2.1, .bool z.2.2.2.2.2.2.2.2.2.2.1, .str z.2.2.2.2.2.2.2.2.2.2.2]])))
      (none)⟩
  | _ => none
def v8m : q9T → List AV := (fun x => [.lst tTxn x.1, .fn 227 [.bp 0 0], .int .i64 x.2.1, .int .i64 x.2.2.1, .int .i64 x.2.2.2.1])
def v60 : q9T → St := (fun x => [.box [.int .i64 x.2.2.2.2.1, .int .i64 x.2.2.2.2.2.1, .int .i64 x.2.2.2.2.2.2.1, .int .i64 x.2.2.2.2.2.2.2.1, .lst tRange x.2.2.2.2.2.2.2.2.1, .lst tWrite x.2.2.2.2.2.2.2.2.2.1, .bool x.2.2.2.2.2.2.2.2.2.2.1, .str x.2.2.2.2.2.2.2.2.2.2.2]])
def v1r : (q9T ⊕ q9T) → Out × List AV × St := (Sum.elim (fun z => (.ret, [.lst tTxn z.1, .fn 227 [.bp 0 0], .int .i64 z.2.1, .int .i64 z.2.2.1, .int .i64 z.2.2.2.1], [.box [.int .i64 z.2.2.2.2.1, .int .i64 z.2.2.2.2.2.1, .int .i64 z.2.2.2.2.2.2.1, .int .i64 z.2.2.2.2.2.2.2.1, .lst tRange z.2.2.2.2.2.2.2.2.1, .lst tWrite z.2.2.2.2.2.2.2.2.2.1, .bool z.2.2.2.2.2.2.2.2.2.2.1, .str z.2.2.2.2.2.2.2.2.2.2.2]])) (fun z => ((.exit 0), [.lst tTxn z.1, .fn 227 [.bp 0 0], .int .i64 z.2.1, .int .i64 z.2.2.1, .int .i64 z.2.2.2.1], [.box [.int .i64 z.2.2.2.2.1, .int .i64 z.2.2.2.2.2.1, .int .i64 z.2.2.2.2.2.2.1, .int .i64 z.2.2.2.2.2.2.2.1, .lst tRange z.2.2.2.2.2.2.2.2.1, .lst tWrite z.2.2.2.2.2.2.2.2.2.1, .bool z.2.2.2.2.2.2.2.2.2.2.1, .str z.2.2.2.2.2.2.2.2.2.2.2]])))
theorem wnr (x : q9T) : exec G55 ⟨1, 19, vfx⟩ (vad Try.f191 0) (va5 ⟨1, 19, vfx⟩ [0, 1, 4, 7, 8] []) (va3 (va0 19) [0, 1, 4, 7, 8] (v8m x)) (v60 x) = vjn x (Sum.elim (fun y => some ⟨.norm, v8m y, v60 y⟩) fun z => some ⟨(v1r z).1, (v1r z).2.1, (v1r z).2.2⟩) := by
  kernel_rfl
theorem wqa : ∀ sp, (vfx 0) = some sp → va8 G55 ⟨1, 19, vfx⟩ sp (vad Try.f191 0) := by
  intro sp hsp vals st k r h
  cases hsp
  dsimp only at h
  rcases vai h with ⟨p, q, rfl, rfl, h⟩ | h
  · exact vaq wcr v8m v60 v1r (fun z => by rcases z with z | z <;> (intro h; cases h)) wnr Fuel (p.1, p.2.2.1, p.2.2.2.1, p.2.2.2.2.1, q.1.1, q.1.2.1, q.1.2.2.1, q.1.2.2.2.1, q.1.2.2.2.2.1, q.1.2.2.2.2.2.1, q.1.2.2.2.2.2.2.1, q.1.2.2.2.2.2.2.2.1) _ k r (fun z => by rcases z with z | z <;> rfl) h
  cases h
theorem w1g (a0 : (List dTxn)) (a1 : Int) (a2 : Int) (a3 : Int) (a4 : Int) (a5 : (List van)) (a6 : (List vaj)) (a7 : Bool) (a8 : ByteArray) : var G55 vfx Try.f191 [.lst tTxn a0, .fn 227 [.bp 0 0]] [.box [.int .i64 a1, .int .i64 a2, .int .i64 a3, .int .i64 a4, .lst tRange a5, .lst tWrite a6, .bool a7, .str a8]] = vz1 a0 a1 a2 a3 a4 a5 a6 a7 a8 (fun (y : q48T) => some ⟨.ret, [.int .i64 y.1], [.box [.int .i64 y.2.1, .int .i64 y.2.2.1, .int .i64 y.2.2.2.1, .int .i64 y.2.2.2.2.1, .lst tRange y.2.2.2.2.2.1, .lst tWrite y.2.2.2.2.2.2.1, .bool y.2.2.2.2.2.2.2.1, .str y.2.2.2.2.2.2.2.2]]⟩) := by rw [wib]; kernel_rfl
theorem w2h : vao G55 ⟨1, 19, vfx⟩ (Try.f191.body.getD .skip) :=
  vaf (ids := [0]) (by kernel_rfl) (by kernel_rfl) ⟨wqa, trivial⟩
theorem vlk : val Try.prog 191 vda := by
  refine told G55_ok follows Try.func191 (c := Try.f191.body.getD .skip) (by kernel_rfl) ?_
  intro args s k r hk
  unfold vda at hk
  rcases vag hk with ⟨p, q, rfl, rfl⟩ | hk
  · exact ⟨vfx, (wt2 p.1 q.1.1 q.1.2.1 q.1.2.2.1 q.1.2.2.2.1 q.1.2.2.2.2.1 q.1.2.2.2.2.2.1 q.1.2.2.2.2.2.2.1 q.1.2.2.2.2.2.2.2.1).map _, w1g p.1 q.1.1 q.1.2.1 q.1.2.2.1 q.1.2.2.2.1 q.1.2.2.2.2.1 q.1.2.2.2.2.2.1 q.1.2.2.2.2.2.2.1 q.1.2.2.2.2.2.2.2.1, w2h⟩
  cases hk
def G56 : Glob := G55.add 191 vda
theorem G56_ok : GlobOk Try.prog G56 := G55_ok.add ⟨Try.f191, Try.func191, by kernel_rfl, by kernel_rfl⟩ vlk
def vrt : Nat → Option LoopSpec
  | _ => none
theorem w1x (a0 : (List dTxn)) (a1 : Int) (a2 : Int) (a3 : Int) (a4 : Int) (a5 : (List van)) (a6 : (List vaj)) (a7 : Bool) (a8 : ByteArray) : var G56 vrt Try.f238 [.lst tTxn a0, .fn 227 [.bp 0 0]] [.box [.int .i64 a1, .int .i64 a2, .int .i64 a3, .int .i64 a4, .lst tRange a5, .lst tWrite a6, .bool a7, .str a8]] = v5l a0 a1 a2 a3 a4 a5 a6 a7 a8 (fun (y : q36T) => some ⟨.ret, [.bool y.1], [.box [.int .i64 y.2.1, .int .i64 y.2.2.1, .int .i64 y.2.2.2.1, .int .i64 y.2.2.2.2.1, .lst tRange y.2.2.2.2.2.1, .lst tWrite y.2.2.2.2.2.2.1, .bool y.2.2.2.2.2.2.2.1, .str y.2.2.2.2.2.2.2.2]]⟩) := by rw [wh7]; kernel_rfl
theorem wzs : vao G56 ⟨1, 9, vrt⟩ (Try.f238.body.getD .skip) :=
  vaf (ids := []) (by kernel_rfl) (by kernel_rfl) trivial
theorem viq : val Try.prog 238 vco := by
  refine told G56_ok follows Try.func238 (c := Try.f238.body.getD .skip) (by kernel_rfl) ?_
  intro args s k r hk
  unfold vco at hk
  rcases vag hk with ⟨p, q, rfl, rfl⟩ | hk
  · exact ⟨vrt, (ws9 p.1 q.1.1 q.1.2.1 q.1.2.2.1 q.1.2.2.2.1 q.1.2.2.2.2.1 q.1.2.2.2.2.2.1 q.1.2.2.2.2.2.2.1 q.1.2.2.2.2.2.2.2.1).map _, w1x p.1 q.1.1 q.1.2.1 q.1.2.2.1 q.1.2.2.2.1 q.1.2.2.2.2.1 q.1.2.2.2.2.2.1 q.1.2.2.2.2.2.2.1 q.1.2.2.2.2.2.2.2.1, wzs⟩
  cases hk
def G57 : Glob := G56.add 238 vco
theorem G57_ok : GlobOk Try.prog G57 := G56_ok.add ⟨Try.f238, Try.func238, by kernel_rfl, by kernel_rfl⟩ viq
def vs9 : Nat → Option LoopSpec
  | _ => none
theorem wx0 (a0 : (List dTxn)) (a1 : Int) (a2 : Int) (a3 : Int) (a4 : Int) (a5 : (List van)) (a6 : (List vaj)) (a7 : Bool) (a8 : ByteArray) : var G57 vs9 Try.f226 [.lst tTxn a0, .fn 227 [.bp 0 0]] [.box [.int .i64 a1, .int .i64 a2, .int .i64 a3, .int .i64 a4, .lst tRange a5, .lst tWrite a6, .bool a7, .str a8]] = vu7 a0 a1 a2 a3 a4 a5 a6 a7 a8 (fun (y : q36T) => some ⟨.ret, [.bool y.1], [.box [.int .i64 y.2.1, .int .i64 y.2.2.1, .int .i64 y.2.2.2.1, .int .i64 y.2.2.2.2.1, .lst tRange y.2.2.2.2.2.1, .lst tWrite y.2.2.2.2.2.2.1, .bool y.2.2.2.2.2.2.2.1, .str y.2.2.2.2.2.2.2.2]]⟩) := by rw [whf]; kernel_rfl
theorem w18 : vao G57 ⟨1, 8, vs9⟩ (Try.f226.body.getD .skip) :=
  vaf (ids := []) (by kernel_rfl) (by kernel_rfl) trivial
theorem v9h : val Try.prog 226 vpl := by
  refine told G57_ok follows Try.func226 (c := Try.f226.body.getD .skip) (by kernel_rfl) ?_
  intro args s k r hk
  unfold vpl at hk
  rcases vag hk with ⟨p, q, rfl, rfl⟩ | hk
  · exact ⟨vs9, (wtx p.1 q.1.1 q.1.2.1 q.1.2.2.1 q.1.2.2.2.1 q.1.2.2.2.2.1 q.1.2.2.2.2.2.1 q.1.2.2.2.2.2.2.1 q.1.2.2.2.2.2.2.2.1).map _, wx0 p.1 q.1.1 q.1.2.1 q.1.2.2.1 q.1.2.2.2.1 q.1.2.2.2.2.1 q.1.2.2.2.2.2.1 q.1.2.2.2.2.2.2.1 q.1.2.2.2.2.2.2.2.1, w18⟩
  cases hk
def G58 : Glob := G57.add 226 vpl
theorem G58_ok : GlobOk Try.prog G58 := G57_ok.add ⟨Try.f226, Try.func226, by kernel_rfl, by kernel_rfl⟩ v9h
def vfh : Nat → Option LoopSpec
  | 0 => some ⟨[0, 1, 4, 7, 8, 9], [], fun vals st k => vam [.lst tTxn, .int .i64, .bool, .lst tTxn, .int .i64, .int .i64] [] vals st (fun p q => vah vjq Fuel (p.1, p.2.1, p.2.2.1, p.2.2.2.1, p.2.2.2.2.1, p.2.2.2.2.2.1) (Sum.elim (fun z => k .ret [.lst tTxn z.1, .int .i64 z.2.1, .bool z.2.2.1, .lst tTxn z.2.2.2.1, .int .i64 z.2.2.2.2.1, .int .i64 z.2.2.2.2.2] []) (fun z => k (.exit 0) [.lst tTxn z.1, .int .i64 z.2.1, .bool z.2.2.1, .lst tTxn z.2.2.2.1, .int .i64 z.2.2.2.2.1, .int .i64 z.2.2.2.2.2] [])))
      (none)⟩
  | _ => none
def v92 : q7T → List AV := (fun x => [.lst tTxn x.1, .int .i64 x.2.1, .bool x.2.2.1, .lst tTxn x.2.2.2.1, .int .i64 x.2.2.2.2.1, .int .i64 x.2.2.2.2.2])
def v8h : q7T → St := (fun x => [])
def v37 : (q7T ⊕ q7T) → Out × List AV × St := (Sum.elim (fun z => (.ret, [.lst tTxn z.1, .int .i64 z.2.1, .bool z.2.2.1, .lst tTxn z.2.2.2.1, .int .i64 z.2.2.2.2.1, .int .i64 z.2.2.2.2.2], [])) (fun z => ((.exit 0), [.lst tTxn z.1, .int .i64 z.2.1, .bool z.2.2.1, .lst tTxn z.2.2.2.1, .int .i64 z.2.2.2.2.1, .int .i64 z.2.2.2.2.2], [])))
theorem wnw (x : q7T) : exec G58 ⟨0, 26, vfh⟩ (vad Try.f196 0) (va5 ⟨0, 26, vfh⟩ [0, 1, 4, 7, 8, 9] []) (va3 (va0 26) [0, 1, 4, 7, 8, 9] (v92 x)) (v8h x) = vjq x (Sum.elim (fun y => some ⟨.norm, v92 y, v8h y⟩) fun z => some ⟨(v37 z).1, (v37 z).2.1, (v37 z).2.2⟩) := by
  kernel_rfl
theorem wpz : ∀ sp, (vfh 0) = some sp → va8 G58 ⟨0, 26, vfh⟩ sp (vad Try.f196 0) := by
  intro sp hsp vals st k r h
  cases hsp
  dsimp only at h
  rcases vai h with ⟨p, q, rfl, rfl, h⟩ | h
  · exact vaq wen v92 v8h v37 (fun z => by rcases z with z | z <;> (intro h; cases h)) wnw Fuel (p.1, p.2.1, p.2.2.1, p.2.2.2.1, p.2.2.2.2.1, p.2.2.2.2.2.1) _ k r (fun z => by rcases z with z | z <;> rfl) h
  cases h
theorem w1o (a0 : (List dTxn)) (a1 : Int) : var G58 vfh Try.f196 [.lst tTxn a0, .int .i64 a1] [] = vh6 a0 a1 (fun (y : Bool) => some ⟨.ret, [.bool y], []⟩) := by rw [wk6]; kernel_rfl
theorem w27 : vao G58 ⟨0, 26, vfh⟩ (Try.f196.body.getD .skip) :=
  vaf (ids := [0]) (by kernel_rfl) (by kernel_rfl) ⟨wpz, trivial⟩
theorem ww7 : val Try.prog 196 wf0 := by
  refine told G58_ok follows Try.func196 (c := Try.f196.body.getD .skip) (by kernel_rfl) ?_
  intro args s k r hk
  unfold wf0 at hk
  rcases vag hk with ⟨p, q, rfl, rfl⟩ | hk
  · exact ⟨vfh, (v5p p.1 p.2.1).map _, w1o p.1 p.2.1, w27⟩
  cases hk
def G59 : Glob := G58.add 196 wf0
theorem G59_ok : GlobOk Try.prog G59 := G58_ok.add ⟨Try.f196, Try.func196, by kernel_rfl, by kernel_rfl⟩ ww7
def vbe : Nat → Option LoopSpec
  | 0 => some ⟨[1, 2, 38, 39, 40], [], fun vals st k => vam [.bp 0 0, .bool, .lst tVersion, .int .i64, .int .i64] [.box [.lst tVersion, .lst tTxn, .lst tTxn, .int .i64, .int .i64]] vals st (fun p q => vah vj8 Fuel (p.2.1, p.2.2.1, p.2.2.2.1, p.2.2.2.2.1, q.1.1, q.1.2.1, q.1.2.2.1, q.1.2.2.2.1, q.1.2.2.2.2.1) (Sum.elim (fun z => k .ret [.bp 0 0, .bool z.1, .lst tVersion z.2.1, .int .i64 z.2.2.1, .int .i64 z.2.2.2.1] [.box [.lst tVersion z.2.2.2.2.1, .lst tTxn z.2.2.2.2.2.1, .lst tTxn z.2.2.2.2.2.2.1, .int .i64 z.2.2.2.2.2.2.2.1, .int .i64 z.2.2.2.2.2.2.2.2]]) (fun z => k (.exit 0) [.bp 0 0, .bool z.1, .lst tVersion z.2.1, .int .i64 z.2.2.1, .int .i64 z.2.2.2.1] [.box [.lst tVersion z.2.2.2.2.1, .lst tTxn z.2.2.2.2.2.1, .lst tTxn z.2.2.2.2.2.2.1, .int .i64 z.2.2.2.2.2.2.2.1, .int .i64 z.2.2.2.2.2.2.2.2]])))
      (none)⟩
  | 2 => some ⟨[1, 2, 51, 52, 53], [], fun vals st k => vam [.bp 0 0, .bool, .lst tTxn, .int .i64, .int .i64] [.box [.lst tVersion, .lst tTxn, .lst tTxn, .int .i64, .int .i64]] vals st (fun p q => vah vjx Fuel (p.2.1, p.2.2.1, p.2.2.2.1, p.2.2.2.2.1, q.1.1, q.1.2.1, q.1.2.2.1, q.1.2.2.2.1, q.1.2.2.2.2.1) (Sum.elim (fun z => k .ret [.bp 0 0, .bool z.1, .lst tTxn z.2.1, .int .i64 z.2.2.1, .int .i64 z.2.2.2.1] [.box [.lst tVersion z.2.2.2.2.1, .lst tTxn z.2.2.2.2.2.1, .lst tTxn z.2.2.2.2.2.2.1, .int .i64 z.2.2.2.2.2.2.2.1, .int .i64 z.2.2.2.2.2.2.2.2]]) (fun z => k (.exit 2) [.bp 0 0, .bool z.1, .lst tTxn z.2.1, .int .i64 z.2.2.1, .int .i64 z.2.2.2.1] [.box [.lst tVersion z.2.2.2.2.1, .lst tTxn z.2.2.2.2.2.1, .lst tTxn z.2.2.2.2.2.2.1, .int .i64 z.2.2.2.2.2.2.2.1, .int .i64 z.2.2.2.2.2.2.2.2]])))
      (none)⟩
  | 4 => some ⟨[1, 2, 91, 92, 93], [], fun vals st k => vam [.bp 0 0, .bool, .lst tTxn, .int .i64, .int .i64] [.box [.lst tVersion, .lst tTxn, .lst tTxn, .int .i64, .int .i64]] vals st (fun p q => vah vku Fuel (p.2.1, p.2.2.1, p.2.2.2.1, p.2.2.2.2.1, q.1.1, q.1.2.1, q.1.2.2.1, q.1.2.2.2.1, q.1.2.2.2.2.1) (Sum.elim (fun z => k .ret [.bp 0 0, .bool z.1, .lst tTxn z.2.1, .int .i64 z.2.2.1, .int .i64 z.2.2.2.1] [.box [.lst tVersion z.2.2.2.2.1, .lst tTxn z.2.2.2.2.2.1, .lst tTxn z.2.2.2.2.2.2.1, .int .i64 z.2.2.2.2.2.2.2.1, .int .i64 z.2.2.2.2.2.2.2.2]]) (fun z => k (.exit 4) [.bp 0 0, .bool z.1, .lst tTxn z.2.1, .int .i64 z.2.2.1, .int .i64 z.2.2.2.1] [.box [.lst tVersion z.2.2.2.2.1, .lst tTxn z.2.2.2.2.2.1, .lst tTxn z.2.2.2.2.2.2.1, .int .i64 z.2.2.2.2.2.2.2.1, .int .i64 z.2.2.2.2.2.2.2.2]])))
      (none)⟩
  | 5000003 => some ⟨[1, 2], [], fun vals st k => vam [.bp 0 0, .bool] [.box [.lst tVersion, .lst tTxn, .lst tTxn, .int .i64, .int .i64]] vals st (fun p q => vcz (p.2.1, q.1.1, q.1.2.1, q.1.2.2.1, q.1.2.2.2.1, q.1.2.2.2.2.1) (fun z => k .ret [.bp 0 0, .bool z.1] [.box [.lst tVersion z.2.1, .lst tTxn z.2.2.1, .lst tTxn z.2.2.2.1, .int .i64 z.2.2.2.2.1, .int .i64 z.2.2.2.2.2]]))
      (none)⟩
  | 2000012 => some ⟨[0, 3, 4, 6, 8, 11, 12, 14, 16, 18, 20, 22, 24, 26, 28, 30, 32, 34, 36, 38, 40, 42, 44, 46, 48, 50, 52, 54, 56, 58, 60], [], fun _ _ _ => none⟩
  | 2000018 => some ⟨[0, 3, 4, 6, 8, 11, 12, 14, 16, 18, 20, 22, 24, 26, 28, 30, 32, 34, 36, 38, 40, 42, 44, 46, 48, 50, 52, 54, 56, 58, 60], [], fun _ _ _ => none⟩
  | 2000021 => some ⟨[0, 2, 4, 6, 12, 14, 9, 11, 17, 18], [], fun _ _ _ => none⟩
  | _ => none
def v90 : q26T → List AV := (fun x => [.bp 0 0, .bool x.1, .lst tVersion x.2.1, .int .i64 x.2.2.1, .int .i64 x.2.2.2.1])
def v6f : q26T → St := (fun x => [.box [.lst tVersion x.2.2.2.2.1, .lst tTxn x.2.2.2.2.2.1, .lst tTxn x.2.2.2.2.2.2.1, .int .i64 x.2.2.2.2.2.2.2.1, .int .i64 x.2.2.2.2.2.2.2.2]])
def v3f : (q26T ⊕ q26T) → Out × List AV × St := (Sum.elim (fun z => (.ret, [.bp 0 0, .bool z.1, .lst tVersion z.2.1, .int .i64 z.2.2.1, .int .i64 z.2.2.2.1], [.box [.lst tVersion z.2.2.2.2.1, .lst tTxn z.2.2.2.2.2.1, .lst tTxn z.2.2.2.2.2.2.1, .int .i64 z.2.2.2.2.2.2.2.1, .int .i64 z.2.2.2.2.2.2.2.2]])) (fun z => ((.exit 0), [.bp 0 0, .bool z.1, .lst tVersion z.2.1, .int .i64 z.2.2.1, .int .i64 z.2.2.2.1], [.box [.lst tVersion z.2.2.2.2.1, .lst tTxn z.2.2.2.2.2.1, .lst tTxn z.2.2.2.2.2.2.1, .int .i64 z.2.2.2.2.2.2.2.1, .int .i64 z.2.2.2.2.2.2.2.2]])))
theorem wqq (x : q26T) : exec G59 ⟨0, 139, vbe⟩ (vad Try.f162 0) (va5 ⟨0, 139, vbe⟩ [1, 2, 38, 39, 40] []) (va3 (va0 139) [1, 2, 38, 39, 40] (v90 x)) (v6f x) = vj8 x (Sum.elim (fun y => some ⟨.norm, v90 y, v6f y⟩) fun z => some ⟨(v3f z).1, (v3f z).2.1, (v3f z).2.2⟩) := by
  kernel_rfl
theorem wq0 : ∀ sp, (vbe 0) = some sp → va8 G59 ⟨0, 139, vbe⟩ sp (vad Try.f162 0) := by
  intro sp hsp vals st k r h
  cases hsp
  dsimp only at h
  rcases vai h with ⟨p, q, rfl, rfl, h⟩ | h
  · exact vaq v99 v90 v6f v3f (fun z => by rcases z with z | z <;> (intro h; cases h)) wqq Fuel (p.2.1, p.2.2.1, p.2.2.2.1, p.2.2.2.2.1, q.1.1, q.1.2.1, q.1.2.2.1, q.1.2.2.2.1, q.1.2.2.2.2.1) _ k r (fun z => by rcases z with z | z <;> rfl) h
  cases h
def v82 : q22T → List AV := (fun x => [.bp 0 0, .bool x.1, .lst tTxn x.2.1, .int .i64 x.2.2.1, .int .i64 x.2.2.2.1])
def v7j : q22T → St := (fun x => [.box [.lst tVersion x.2.2.2.2.1, .lst tTxn x.2.2.2.2.2.1, .lst tTxn x.2.2.2.2.2.2.1, .int .i64 x.2.2.2.2.2.2.2.1, .int .i64 x.2.2.2.2.2.2.2.2]])
def v2j : (q22T ⊕ q22T) → Out × List AV × St := (Sum.elim (fun z => (.ret, [.bp 0 0, .bool z.1, .lst tTxn z.2.1, .int .i64 z.2.2.1, .int .i64 z.2.2.2.1], [.box [.lst tVersion z.2.2.2.2.1, .lst tTxn z.2.2.2.2.2.1, .lst tTxn z.2.2.2.2.2.2.1, .int .i64 z.2.2.2.2.2.2.2.1, .int .i64 z.2.2.2.2.2.2.2.2]])) (fun z => ((.exit 2), [.bp 0 0, .bool z.1, .lst tTxn z.2.1, .int .i64 z.2.2.1, .int .i64 z.2.2.2.1], [.box [.lst tVersion z.2.2.2.2.1, .lst tTxn z.2.2.2.2.2.1, .lst tTxn z.2.2.2.2.2.2.1, .int .i64 z.2.2.2.2.2.2.2.1, .int .i64 z.2.2.2.2.2.2.2.2]])))
theorem wqi (x : q22T) : exec G59 ⟨0, 139, vbe⟩ (vad Try.f162 2) (va5 ⟨0, 139, vbe⟩ [1, 2, 51, 52, 53] []) (va3 (va0 139) [1, 2, 51, 52, 53] (v82 x)) (v7j x) = vjx x (Sum.elim (fun y => some ⟨.norm, v82 y, v7j y⟩) fun z => some ⟨(v2j z).1, (v2j z).2.1, (v2j z).2.2⟩) := by
  kernel_rfl
theorem wo9 : ∀ sp, (vbe 2) = some sp → va8 G59 ⟨0, 139, vbe⟩ sp (vad Try.f162 2) := by
  intro sp hsp vals st k r h
  cases hsp
  dsimp only at h
  rcases vai h with ⟨p, q, rfl, rfl, h⟩ | h
  · exact vaq wem v82 v7j v2j (fun z => by rcases z with z | z <;> (intro h; cases h)) wqi Fuel (p.2.1, p.2.2.1, p.2.2.2.1, p.2.2.2.2.1, q.1.1, q.1.2.1, q.1.2.2.1, q.1.2.2.2.1, q.1.2.2.2.2.1) _ k r (fun z => by rcases z with z | z <;> rfl) h
  cases h
def v6v : q22T → List AV := (fun x => [.bp 0 0, .bool x.1, .lst tTxn x.2.1, .int .i64 x.2.2.1, .int .i64 x.2.2.2.1])
def v8r : q22T → St := (fun x => [.box [.lst tVersion x.2.2.2.2.1, .lst tTxn x.2.2.2.2.2.1, .lst tTxn x.2.2.2.2.2.2.1, .int .i64 x.2.2.2.2.2.2.2.1, .int .i64 x.2.2.2.2.2.2.2.2]])
def v3h : (q22T ⊕ q22T) → Out × List AV × St := (Sum.elim (fun z => (.ret, [.bp 0 0, .bool z.1, .lst tTxn z.2.1, .int .i64 z.2.2.1, .int .i64 z.2.2.2.1], [.box [.lst tVersion z.2.2.2.2.1, .lst tTxn z.2.2.2.2.2.1, .lst tTxn z.2.2.2.2.2.2.1, .int .i64 z.2.2.2.2.2.2.2.1, .int .i64 z.2.2.2.2.2.2.2.2]])) (fun z => ((.exit 4), [.bp 0 0, .bool z.1, .lst tTxn z.2.1, .int .i64 z.2.2.1, .int .i64 z.2.2.2.1], [.box [.lst tVersion z.2.2.2.2.1, .lst tTxn z.2.2.2.2.2.1, .lst tTxn z.2.2.2.2.2.2.1, .int .i64 z.2.2.2.2.2.2.2.1, .int .i64 z.2.2.2.2.2.2.2.2]])))
theorem wmt (x : q22T) : exec G59 ⟨0, 139, vbe⟩ (vad Try.f162 4) (va5 ⟨0, 139, vbe⟩ [1, 2, 91, 92, 93] []) (va3 (va0 139) [1, 2, 91, 92, 93] (v6v x)) (v8r x) = vku x (Sum.elim (fun y => some ⟨.norm, v6v y, v8r y⟩) fun z => some ⟨(v3h z).1, (v3h z).2.1, (v3h z).2.2⟩) := by
  kernel_rfl
theorem wpu : ∀ sp, (vbe 4) = some sp → va8 G59 ⟨0, 139, vbe⟩ sp (vad Try.f162 4) := by
  intro sp hsp vals st k r h
  cases hsp
  dsimp only at h
  rcases vai h with ⟨p, q, rfl, rfl, h⟩ | h
  · exact vaq wdi v6v v8r v3h (fun z => by rcases z with z | z <;> (intro h; cases h)) wmt Fuel (p.2.1, p.2.2.1, p.2.2.2.1, p.2.2.2.2.1, q.1.1, q.1.2.1, q.1.2.2.1, q.1.2.2.2.1, q.1.2.2.2.2.1) _ k r (fun z => by rcases z with z | z <;> rfl) h
  cases h
def vn9 : q25T → List AV := (fun x => [.bp 0 0, .bool x.1])
def vnt : q25T → St := (fun x => [.box [.lst tVersion x.2.1, .lst tTxn x.2.2.1, .lst tTxn x.2.2.2.1, .int .i64 x.2.2.2.2.1, .int .i64 x.2.2.2.2.2]])
def vgo : q25T → Out × List AV × St := (fun z => (.ret, [.bp 0 0, .bool z.1], [.box [.lst tVersion z.2.1, .lst tTxn z.2.2.1, .lst tTxn z.2.2.2.1, .int .i64 z.2.2.2.2.1, .int .i64 z.2.2.2.2.2]]))
theorem vyq (x : q25T) : exec G59 ⟨0, 139, vbe⟩ (vad Try.f162 5000003) (va5 ⟨0, 139, vbe⟩ [1, 2] []) (va3 (va0 139) [1, 2] (vn9 x)) (vnt x) = vcz x (fun z => some ⟨(vgo z).1, (vgo z).2.1, (vgo z).2.2⟩) := by
  kernel_rfl
theorem vx9 : ∀ sp, (vbe 5000003) = some sp → vg5 G59 ⟨0, 139, vbe⟩ sp (vad Try.f162 5000003) := by
  intro sp hsp vals st k r h
  cases hsp
  dsimp only at h
  rcases vai h with ⟨p, q, rfl, rfl, h⟩ | h
  · exact vbu vno vn9 vnt vgo vyq (p.2.1, q.1.1, q.1.2.1, q.1.2.2.1, q.1.2.2.2.1, q.1.2.2.2.2.1) _ k r (fun z => rfl) h
  cases h
theorem wz1 (a0 : (List vac)) (a1 : (List dTxn)) (a2 : (List dTxn)) (a3 : Int) (a4 : Int) : var G59 vbe Try.f162 [.agg [.lst tVersion a0, .lst tTxn a1, .lst tTxn a2, .int .i64 a3, .int .i64 a4]] [] = vte (a0, (a1, (a2, (a3, a4)))) (fun (y : Bool) => some ⟨.ret, [.bool y], []⟩) := by rw [wg5]; kernel_rfl
theorem w2g : vao G59 ⟨0, 139, vbe⟩ (Try.f162.body.getD .skip) :=
  vaf (ids := [0, 2, 4, 5000003]) (by kernel_rfl) (by kernel_rfl) ⟨wq0, ⟨wo9, ⟨wpu, ⟨vx9, trivial⟩⟩⟩⟩
theorem w0q : val Try.prog 162 whi := by
  refine told G59_ok follows Try.func162 (c := Try.f162.body.getD .skip) (by kernel_rfl) ?_
  intro args s k r hk
  unfold whi at hk
  rcases vag hk with ⟨p, q, rfl, rfl⟩ | hk
  · exact ⟨vbe, (wti (p.1.1, (p.1.2.1, (p.1.2.2.1, (p.1.2.2.2.1, p.1.2.2.2.2.1))))).map _, wz1 p.1.1 p.1.2.1 p.1.2.2.1 p.1.2.2.2.1 p.1.2.2.2.2.1, w2g⟩
  cases hk
def G60 : Glob := G59.add 162 whi
theorem G60_ok : GlobOk Try.prog G60 := G59_ok.add ⟨Try.f162, Try.func162, by kernel_rfl, by kernel_rfl⟩ w0q
def vcv : Nat → Option LoopSpec
  | 0 => some ⟨[1, 2, 33, 34, 35], [], fun vals st k => vam [.bp 0 0, .bool, .lst tTxn, .int .i64, .int .i64] [.box [.lst tVersion, .lst tTxn, .lst tTxn, .int .i64, .int .i64, .lst tTxn]] vals st (fun p q => vah vkh Fuel (p.2.1, p.2.2.1, p.2.2.2.1, p.2.2.2.2.1, q.1.1, q.1.2.1, q.1.2.2.1, q.1.2.2.2.1, q.1.2.2.2.2.1, q.1.2.2.2.2.2.1) (Sum.elim (fun z => k .ret [.bp 0 0, .bool z.1, .lst tTxn z.2.1, .int .i64 z.2.2.1, .int .i64 z.2.2.2.1] [.box [.lst tVersion z.2.2.2.2.1, .lst tTxn z.2.2.2.2.2.1, .lst tTxn z.2.2.2.2.2.2.1, .int .i64 z.2.2.2.2.2.2.2.1, .int .i64 z.2.2.2.2.2.2.2.2.1, .lst tTxn z.2.2.2.2.2.2.2.2.2]]) (fun z => k (.exit 0) [.bp 0 0, .bool z.1, .lst tTxn z.2.1, .int .i64 z.2.2.1, .int .i64 z.2.2.2.1] [.box [.lst tVersion z.2.2.2.2.1, .lst tTxn z.2.2.2.2.2.1, .lst tTxn z.2.2.2.2.2.2.1, .int .i64 z.2.2.2.2.2.2.2.1, .int .i64 z.2.2.2.2.2.2.2.2.1, .lst tTxn z.2.2.2.2.2.2.2.2.2]])))
      (none)⟩
  | 5000003 => some ⟨[1, 2], [], fun vals st k => vam [.bp 0 0, .bool] [.box [.lst tVersion, .lst tTxn, .lst tTxn, .int .i64, .int .i64, .lst tTxn]] vals st (fun p q => vcf (p.2.1, q.1.1, q.1.2.1, q.1.2.2.1, q.1.2.2.2.1, q.1.2.2.2.2.1, q.1.2.2.2.2.2.1) (fun z => k .ret [.bp 0 0, .bool z.1] [.box [.lst tVersion z.2.1, .lst tTxn z.2.2.1, .lst tTxn z.2.2.2.1, .int .i64 z.2.2.2.2.1, .int .i64 z.2.2.2.2.2.1, .lst tTxn z.2.2.2.2.2.2]]))
      (none)⟩
  | 2000001 => some ⟨[0, 2, 5, 6, 8, 10, 12, 14, 16, 18, 20, 22, 24, 26, 28, 30, 32, 34, 36, 42, 44, 46, 39, 41, 49, 50, 52], [], fun _ _ _ => none⟩
  | 2000006 => some ⟨[0, 3, 4, 6, 8, 10, 12, 14, 16, 18, 20, 22, 24, 26, 28, 30, 32, 34, 36, 38, 40, 42, 44, 46, 48, 50, 52, 54, 56, 58, 60, 62], [], fun _ _ _ => none⟩
  | _ => none
def v9n : q21T → List AV := (fun x => [.bp 0 0, .bool x.1, .lst tTxn x.2.1, .int .i64 x.2.2.1, .int .i64 x.2.2.2.1])
def v75 : q21T → St := (fun x => [.box [.lst tVersion x.2.2.2.2.1, .lst tTxn x.2.2.2.2.2.1, .lst tTxn x.2.2.2.2.2.2.1, .int .i64 x.2.2.2.2.2.2.2.1, .int .i64 x.2.2.2.2.2.2.2.2.1, .lst tTxn x.2.2.2.2.2.2.2.2.2]])
def v1g : (q21T ⊕ q21T) → Out × List AV × St := (Sum.elim (fun z => (.ret, [.bp 0 0, .bool z.1, .lst tTxn z.2.1, .int .i64 z.2.2.1, .int .i64 z.2.2.2.1], [.box [.lst tVersion z.2.2.2.2.1, .lst tTxn z.2.2.2.2.2.1, .lst tTxn z.2.2.2.2.2.2.1, .int .i64 z.2.2.2.2.2.2.2.1, .int .i64 z.2.2.2.2.2.2.2.2.1, .lst tTxn z.2.2.2.2.2.2.2.2.2]])) (fun z => ((.exit 0), [.bp 0 0, .bool z.1, .lst tTxn z.2.1, .int .i64 z.2.2.1, .int .i64 z.2.2.2.1], [.box [.lst tVersion z.2.2.2.2.1, .lst tTxn z.2.2.2.2.2.1, .lst tTxn z.2.2.2.2.2.2.1, .int .i64 z.2.2.2.2.2.2.2.1, .int .i64 z.2.2.2.2.2.2.2.2.1, .lst tTxn z.2.2.2.2.2.2.2.2.2]])))
theorem wqf (x : q21T) : exec G60 ⟨0, 73, vcv⟩ (vad Try.f140 0) (va5 ⟨0, 73, vcv⟩ [1, 2, 33, 34, 35] []) (va3 (va0 73) [1, 2, 33, 34, 35] (v9n x)) (v75 x) = vkh x (Sum.elim (fun y => some ⟨.norm, v9n y, v75 y⟩) fun z => some ⟨(v1g z).1, (v1g z).2.1, (v1g z).2.2⟩) := by
  kernel_rfl
theorem wn5 : ∀ sp, (vcv 0) = some sp → va8 G60 ⟨0, 73, vcv⟩ sp (vad Try.f140 0) := by
  intro sp hsp vals st k r h
  cases hsp
  dsimp only at h
  rcases vai h with ⟨p, q, rfl, rfl, h⟩ | h
  · exact vaq waw v9n v75 v1g (fun z => by rcases z with z | z <;> (intro h; cases h)) wqf Fuel (p.2.1, p.2.2.1, p.2.2.2.1, p.2.2.2.2.1, q.1.1, q.1.2.1, q.1.2.2.1, q.1.2.2.2.1, q.1.2.2.2.2.1, q.1.2.2.2.2.2.1) _ k r (fun z => by rcases z with z | z <;> rfl) h
  cases h
def voq : q24T → List AV := (fun x => [.bp 0 0, .bool x.1])
def voj : q24T → St := (fun x => [.box [.lst tVersion x.2.1, .lst tTxn x.2.2.1, .lst tTxn x.2.2.2.1, .int .i64 x.2.2.2.2.1, .int .i64 x.2.2.2.2.2.1, .lst tTxn x.2.2.2.2.2.2]])
def vgf : q24T → Out × List AV × St := (fun z => (.ret, [.bp 0 0, .bool z.1], [.box [.lst tVersion z.2.1, .lst tTxn z.2.2.1, .lst tTxn z.2.2.2.1, .int .i64 z.2.2.2.2.1, .int .i64 z.2.2.2.2.2.1, .lst tTxn z.2.2.2.2.2.2]]))
theorem vyx (x : q24T) : exec G60 ⟨0, 73, vcv⟩ (vad Try.f140 5000003) (va5 ⟨0, 73, vcv⟩ [1, 2] []) (va3 (va0 73) [1, 2] (voq x)) (voj x) = vcf x (fun z => some ⟨(vgf z).1, (vgf z).2.1, (vgf z).2.2⟩) := by
  kernel_rfl
theorem vy3 : ∀ sp, (vcv 5000003) = some sp → vg5 G60 ⟨0, 73, vcv⟩ sp (vad Try.f140 5000003) := by
  intro sp hsp vals st k r h
  cases hsp
  dsimp only at h
  rcases vai h with ⟨p, q, rfl, rfl, h⟩ | h
  · exact vbu vig voq voj vgf vyx (p.2.1, q.1.1, q.1.2.1, q.1.2.2.1, q.1.2.2.2.1, q.1.2.2.2.2.1, q.1.2.2.2.2.2.1) _ k r (fun z => rfl) h
  cases h
theorem w2u (a0 : (List vac)) (a1 : (List dTxn)) (a2 : (List dTxn)) (a3 : Int) (a4 : Int) (a5 : (List dTxn)) : var G60 vcv Try.f140 [.agg [.lst tVersion a0, .lst tTxn a1, .lst tTxn a2, .int .i64 a3, .int .i64 a4, .lst tTxn a5]] [] = vuo ((a0, (a1, (a2, (a3, a4)))), a5) (fun (y : Bool) => some ⟨.ret, [.bool y], []⟩) := by rw [wlw]; kernel_rfl
theorem wyv : vao G60 ⟨0, 73, vcv⟩ (Try.f140.body.getD .skip) :=
  vaf (ids := [0, 5000003]) (by kernel_rfl) (by kernel_rfl) ⟨wn5, ⟨vy3, trivial⟩⟩
theorem w1e : val Try.prog 140 wkv := by
  refine told G60_ok follows Try.func140 (c := Try.f140.body.getD .skip) (by kernel_rfl) ?_
  intro args s k r hk
  unfold wkv at hk
  rcases vag hk with ⟨p, q, rfl, rfl⟩ | hk
  · exact ⟨vcv, (wtr ((p.1.1, (p.1.2.1, (p.1.2.2.1, (p.1.2.2.2.1, p.1.2.2.2.2.1)))), p.1.2.2.2.2.2.1)).map _, w2u p.1.1 p.1.2.1 p.1.2.2.1 p.1.2.2.2.1 p.1.2.2.2.2.1 p.1.2.2.2.2.2.1, wyv⟩
  cases hk
def G61 : Glob := G60.add 140 wkv
theorem G61_ok : GlobOk Try.prog G61 := G60_ok.add ⟨Try.f140, Try.func140, by kernel_rfl, by kernel_rfl⟩ w1e
def vff : Nat → Option LoopSpec
  | 5000004 => some ⟨[1, 2, 3, 4, 5], [none, none, none, none, none, none, none, none, none, none, none, some tVersion, some tTxn, some tTxn, none, none, some tTxn], fun vals st k => vam [.bp 0 0, .bp 1 0, .int .i64, .int .i64, .bp 2 0] [.box [.lst tVersion, .lst tTxn, .lst tTxn, .int .i64, .int .i64, .lst tTxn], .box [.own 3, .own 4, .own 5, .int .i64, .int .i64, .own 6], .box [.own 7, .own 8, .own 9, .int .i64, .int .i64, .own 10], .arr tVersion, .dep tTxn 0, .dep tTxn 0, .dep tTxn 0, .arr tVersion, .dep tTxn 0, .dep tTxn 0, .dep tTxn 0] vals st (fun p q => vds (p.2.2.1, p.2.2.2.1, q.1.1, q.1.2.1, q.1.2.2.1, q.1.2.2.2.1, q.1.2.2.2.2.1, q.1.2.2.2.2.2.1, q.2.1.2.2.2.1, q.2.1.2.2.2.2.1, q.2.2.1.2.2.2.1, q.2.2.1.2.2.2.2.1, q.2.2.2.1, q.2.2.2.2.1, q.2.2.2.2.2.1, q.2.2.2.2.2.2.1, q.2.2.2.2.2.2.2.1, q.2.2.2.2.2.2.2.2.1, q.2.2.2.2.2.2.2.2.2.1, q.2.2.2.2.2.2.2.2.2.2.1) (fun z => k .ret [.bp 0 0, .bp 1 0, .int .i64 z.1, .int .i64 z.2.1, .bp 2 0] [.box [.lst tVersion z.2.2.1, .lst tTxn z.2.2.2.1, .lst tTxn z.2.2.2.2.1, .int .i64 z.2.2.2.2.2.1, .int .i64 z.2.2.2.2.2.2.1, .lst tTxn z.2.2.2.2.2.2.2.1], .box [.own 3, .own 4, .own 5, .int .i64 z.2.2.2.2.2.2.2.2.1, .int .i64 z.2.2.2.2.2.2.2.2.2.1, .own 6], .box [.own 3, .own 4, .own 5, .int .i64 z.2.2.2.2.2.2.2.2.2.2.1, .int .i64 z.2.2.2.2.2.2.2.2.2.2.2.1, .own 6], .arr tVersion z.2.2.2.2.2.2.2.2.2.2.2.2.1, .dep tTxn z.2.2.2.2.2.2.2.2.2.2.2.2.2.1 0, .dep tTxn z.2.2.2.2.2.2.2.2.2.2.2.2.2.2.1 0, .dep tTxn z.2.2.2.2.2.2.2.2.2.2.2.2.2.2.2 0]))
      (none)⟩
  | _ => none
def voo : q43T → List AV := (fun x => [.bp 0 0, .bp 1 0, .int .i64 x.1, .int .i64 x.2.1, .bp 2 0])
def vng : q43T → St := (fun x => [.box [.lst tVersion x.2.2.1, .lst tTxn x.2.2.2.1, .lst tTxn x.2.2.2.2.1, .int .i64 x.2.2.2.2.2.1, .int .i64 x.2.2.2.2.2.2.1, .lst tTxn x.2.2.2.2.2.2.2.1], .box [.own 3, .own 4, .own 5, .int .i64 x.2.2.2.2.2.2.2.2.1, .int .i64 x.2.2.2.2.2.2.2.2.2.1, .own 6], .box [.own 7, .own 8, .own 9, .int .i64 x.2.2.2.2.2.2.2.2.2.2.1, .int .i64 x.2.2.2.2.2.2.2.2.2.2.2.1, .own 10], .arr tVersion x.2.2.2.2.2.2.2.2.2.2.2.2.1, .dep tTxn x.2.2.2.2.2.2.2.2.2.2.2.2.2.1 0, .dep tTxn x.2.2.2.2.2.2.2.2.2.2.2.2.2.2.1 0, .dep tTxn x.2.2.2.2.2.2.2.2.2.2.2.2.2.2.2.1 0, .arr tVersion x.2.2.2.2.2.2.2.2.2.2.2.2.2.2.2.2.1, .dep tTxn x.2.2.2.2.2.2.2.2.2.2.2.2.2.2.2.2.2.1 0, .dep tTxn x.2.2.2.2.2.2.2.2.2.2.2.2.2.2.2.2.2.2.1 0, .dep tTxn x.2.2.2.2.2.2.2.2.2.2.2.2.2.2.2.2.2.2.2 0])
def vgj : q44T → Out × List AV × St := (fun z => (.ret, [.bp 0 0, .bp 1 0, .int .i64 z.1, .int .i64 z.2.1, .bp 2 0], [.box [.lst tVersion z.2.2.1, .lst tTxn z.2.2.2.1, .lst tTxn z.2.2.2.2.1, .int .i64 z.2.2.2.2.2.1, .int .i64 z.2.2.2.2.2.2.1, .lst tTxn z.2.2.2.2.2.2.2.1], .box [.own 3, .own 4, .own 5, .int .i64 z.2.2.2.2.2.2.2.2.1, .int .i64 z.2.2.2.2.2.2.2.2.2.1, .own 6], .box [.own 3, .own 4, .own 5, .int .i64 z.2.2.2.2.2.2.2.2.2.2.1, .int .i64 z.2.2.2.2.2.2.2.2.2.2.2.1, .own 6], .arr tVersion z.2.2.2.2.2.2.2.2.2.2.2.2.1, .dep tTxn z.2.2.2.2.2.2.2.2.2.2.2.2.2.1 0, .dep tTxn z.2.2.2.2.2.2.2.2.2.2.2.2.2.2.1 0, .dep tTxn z.2.2.2.2.2.2.2.2.2.2.2.2.2.2.2 0]))
theorem vyn (x : q43T) : exec G61 ⟨0, 46, vff⟩ (vad Try.f58 5000004) (va5 ⟨0, 46, vff⟩ [1, 2, 3, 4, 5] [none, none, none, none, none, none, none, none, none, none, none, some tVersion, some tTxn, some tTxn, none, none, some tTxn]) (va3 (va0 46) [1, 2, 3, 4, 5] (voo x)) (vng x) = vds x (fun z => some ⟨(vgj z).1, (vgj z).2.1, (vgj z).2.2⟩) := by
  kernel_rfl
theorem vyd : ∀ sp, (vff 5000004) = some sp → vg5 G61 ⟨0, 46, vff⟩ sp (vad Try.f58 5000004) := by
  intro sp hsp vals st k r h
  cases hsp
  dsimp only at h
  rcases vai h with ⟨p, q, rfl, rfl, h⟩ | h
  · exact vbu vn2 voo vng vgj vyn (p.2.2.1, p.2.2.2.1, q.1.1, q.1.2.1, q.1.2.2.1, q.1.2.2.2.1, q.1.2.2.2.2.1, q.1.2.2.2.2.2.1, q.2.1.2.2.2.1, q.2.1.2.2.2.2.1, q.2.2.1.2.2.2.1, q.2.2.1.2.2.2.2.1, q.2.2.2.1, q.2.2.2.2.1, q.2.2.2.2.2.1, q.2.2.2.2.2.2.1, q.2.2.2.2.2.2.2.1, q.2.2.2.2.2.2.2.2.1, q.2.2.2.2.2.2.2.2.2.1, q.2.2.2.2.2.2.2.2.2.2.1) _ k r (fun z => rfl) h
  cases h
theorem wvv (a0 : (List vac)) (a1 : (List dTxn)) (a2 : (List dTxn)) (a3 : Int) (a4 : Int) (a5 : (List dTxn)) : var G61 vff Try.f58 [.agg [.lst tVersion a0, .lst tTxn a1, .lst tTxn a2, .int .i64 a3, .int .i64 a4, .lst tTxn a5]] [] = vrd ((a0, (a1, (a2, (a3, a4)))), a5) (fun (y : q46T) => some ⟨.ret, [.tup [.agg [.own 0, .own 1, .own 2, .int .i64 y.1, .int .i64 y.2.1, .own 3], .int .i64 y.2.2.1, .int .i64 y.2.2.2.1]], [.arr tVersion y.2.2.2.2.1, .dep tTxn y.2.2.2.2.2.1 0, .dep tTxn y.2.2.2.2.2.2.1 0, .dep tTxn y.2.2.2.2.2.2.2 0]⟩) := by rw [wkw]; kernel_rfl
theorem wvw : vao G61 ⟨0, 46, vff⟩ (Try.f58.body.getD .skip) :=
  vaf (ids := [5000004]) (by kernel_rfl) (by kernel_rfl) ⟨vyd, trivial⟩
theorem ww6 : val Try.prog 58 wkd := by
  refine told G61_ok follows Try.func58 (c := Try.f58.body.getD .skip) (by kernel_rfl) ?_
  intro args s k r hk
  unfold wkd at hk
  rcases vag hk with ⟨p, q, rfl, rfl⟩ | hk
  · exact ⟨vff, (wgx ((p.1.1, (p.1.2.1, (p.1.2.2.1, (p.1.2.2.2.1, p.1.2.2.2.2.1)))), p.1.2.2.2.2.2.1)).map _, wvv p.1.1 p.1.2.1 p.1.2.2.1 p.1.2.2.2.1 p.1.2.2.2.2.1 p.1.2.2.2.2.2.1, wvw⟩
  cases hk
def G62 : Glob := G61.add 58 wkd
theorem G62_ok : GlobOk Try.prog G62 := G61_ok.add ⟨Try.f58, Try.func58, by kernel_rfl, by kernel_rfl⟩ ww6
def vrw : Nat → Option LoopSpec
  | _ => none
theorem w1d (a0 : ByteArray) (a1 : ByteArray) (a2 : Bool) (a3 : Int) (a4 : ByteArray) (a5 : ByteArray) (a6 : Bool) (a7 : Int) : var G62 vrw Try.f78 [.agg [.str a0, .str a1, .bool a2, .int .i64 a3], .agg [.str a4, .str a5, .bool a6, .int .i64 a7]] [] = vwy (a0, (a1, (a2, a3))) (a4, (a5, (a6, a7))) (fun (y : Bool) => some ⟨.ret, [.bool y], []⟩) := by rw [wih]; kernel_rfl
theorem w0m : vao G62 ⟨0, 25, vrw⟩ (Try.f78.body.getD .skip) :=
  vaf (ids := []) (by kernel_rfl) (by kernel_rfl) trivial
theorem w3a : val Try.prog 78 whz := by
  refine told G62_ok follows Try.func78 (c := Try.f78.body.getD .skip) (by kernel_rfl) ?_
  intro args s k r hk
  unfold whz at hk
  rcases vag hk with ⟨p, q, rfl, rfl⟩ | hk
  · exact ⟨vrw, (wta (p.1.1, (p.1.2.1, (p.1.2.2.1, p.1.2.2.2.1))) (p.2.1.1, (p.2.1.2.1, (p.2.1.2.2.1, p.2.1.2.2.2.1)))).map _, w1d p.1.1 p.1.2.1 p.1.2.2.1 p.1.2.2.2.1 p.2.1.1 p.2.1.2.1 p.2.1.2.2.1 p.2.1.2.2.2.1, w0m⟩
  cases hk
def G63 : Glob := G62.add 78 whz
theorem G63_ok : GlobOk Try.prog G63 := G62_ok.add ⟨Try.f78, Try.func78, by kernel_rfl, by kernel_rfl⟩ w3a
def vfm : Nat → Option LoopSpec
  | 0 => some ⟨[0, 1, 4, 5], [], fun vals st k => vam [.lst tVersion, .lst tVersion, .bool, .int .i64] [] vals st (fun p q => vah vld Fuel (p.1, p.2.1, p.2.2.1, p.2.2.2.1) (Sum.elim (fun z => k .ret [.lst tVersion z.1, .lst tVersion z.2.1, .bool z.2.2.1, .int .i64 z.2.2.2] []) (fun z => k (.exit 0) [.lst tVersion z.1, .lst tVersion z.2.1, .bool z.2.2.1, .int .i64 z.2.2.2] [])))
      (none)⟩
  | 2000006 => some ⟨[0, 2, 4, 6, 8, 10, 12, 14, 16, 18], [], fun _ _ _ => none⟩
  | _ => none
def v6s : q11T → List AV := (fun x => [.lst tVersion x.1, .lst tVersion x.2.1, .bool x.2.2.1, .int .i64 x.2.2.2])
def v8a : q11T → St := (fun x => [])
def v28 : (q11T ⊕ q11T) → Out × List AV × St := (Sum.elim (fun z => (.ret, [.lst tVersion z.1, .lst tVersion z.2.1, .bool z.2.2.1, .int .i64 z.2.2.2], [])) (fun z => ((.exit 0), [.lst tVersion z.1, .lst tVersion z.2.1, .bool z.2.2.1, .int .i64 z.2.2.2], [])))
theorem wod (x : q11T) : exec G63 ⟨0, 27, vfm⟩ (vad Try.f19 0) (va5 ⟨0, 27, vfm⟩ [0, 1, 4, 5] []) (va3 (va0 27) [0, 1, 4, 5] (v6s x)) (v8a x) = vld x (Sum.elim (fun y => some ⟨.norm, v6s y, v8a y⟩) fun z => some ⟨(v28 z).1, (v28 z).2.1, (v28 z).2.2⟩) := by
  kernel_rfl
theorem wqy : ∀ sp, (vfm 0) = some sp → va8 G63 ⟨0, 27, vfm⟩ sp (vad Try.f19 0) := by
  intro sp hsp vals st k r h
  cases hsp
  dsimp only at h
  rcases vai h with ⟨p, q, rfl, rfl, h⟩ | h
  · exact vaq wbf v6s v8a v28 (fun z => by rcases z with z | z <;> (intro h; cases h)) wod Fuel (p.1, p.2.1, p.2.2.1, p.2.2.2.1) _ k r (fun z => by rcases z with z | z <;> rfl) h
  cases h
theorem wye (a0 : (List vac)) (a1 : (List vac)) : var G63 vfm Try.f19 [.lst tVersion a0, .lst tVersion a1] [] = vw3 a0 a1 (fun (y : Bool) => some ⟨.ret, [.bool y], []⟩) := by rw [wll]; kernel_rfl
theorem wyf : vao G63 ⟨0, 27, vfm⟩ (Try.f19.body.getD .skip) :=
  vaf (ids := [0]) (by kernel_rfl) (by kernel_rfl) ⟨wqy, trivial⟩
theorem w10 : val Try.prog 19 wjd := by
  refine told G63_ok follows Try.func19 (c := Try.f19.body.getD .skip) (by kernel_rfl) ?_
  intro args s k r hk
  unfold wjd at hk
  rcases vag hk with ⟨p, q, rfl, rfl⟩ | hk
  · exact ⟨vfm, (wts p.1 p.2.1).map _, wye p.1 p.2.1, wyf⟩
  cases hk
def G64 : Glob := G63.add 19 wjd
theorem G64_ok : GlobOk Try.prog G64 := G63_ok.add ⟨Try.f19, Try.func19, by kernel_rfl, by kernel_rfl⟩ w10
def vsz : Nat → Option LoopSpec
  | _ => none
theorem wx8 (a0 : ByteArray) (a1 : ByteArray) (a2 : ByteArray) (a3 : ByteArray) : var G64 vsz Try.f149 [.agg [.str a0, .str a1], .agg [.str a2, .str a3]] [] = vxb (a0, a1) (a2, a3) (fun (y : Bool) => some ⟨.ret, [.bool y], []⟩) := by rw [wi7]; kernel_rfl
theorem wzo : vao G64 ⟨0, 15, vsz⟩ (Try.f149.body.getD .skip) :=
  vaf (ids := []) (by kernel_rfl) (by kernel_rfl) trivial
theorem w2p : val Try.prog 149 wla := by
  refine told G64_ok follows Try.func149 (c := Try.f149.body.getD .skip) (by kernel_rfl) ?_
  intro args s k r hk
  unfold wla at hk
  rcases vag hk with ⟨p, q, rfl, rfl⟩ | hk
  · exact ⟨vsz, (wto (p.1.1, p.1.2.1) (p.2.1.1, p.2.1.2.1)).map _, wx8 p.1.1 p.1.2.1 p.2.1.1 p.2.1.2.1, wzo⟩
  cases hk
def G65 : Glob := G64.add 149 wla
theorem G65_ok : GlobOk Try.prog G65 := G64_ok.add ⟨Try.f149, Try.func149, by kernel_rfl, by kernel_rfl⟩ w2p
def vfg : Nat → Option LoopSpec
  | 0 => some ⟨[0, 1, 4, 5], [], fun vals st k => vam [.lst tRange, .lst tRange, .bool, .int .i64] [] vals st (fun p q => vah vj3 Fuel (p.1, p.2.1, p.2.2.1, p.2.2.2.1) (Sum.elim (fun z => k .ret [.lst tRange z.1, .lst tRange z.2.1, .bool z.2.2.1, .int .i64 z.2.2.2] []) (fun z => k (.exit 0) [.lst tRange z.1, .lst tRange z.2.1, .bool z.2.2.1, .int .i64 z.2.2.2] [])))
      (none)⟩
  | 2000006 => some ⟨[0, 2, 4, 6, 8, 10, 12, 14, 16, 18], [], fun _ _ _ => none⟩
  | _ => none
def v87 : q2T → List AV := (fun x => [.lst tRange x.1, .lst tRange x.2.1, .bool x.2.2.1, .int .i64 x.2.2.2])
def v7b : q2T → St := (fun x => [])
def v3t : (q2T ⊕ q2T) → Out × List AV × St := (Sum.elim (fun z => (.ret, [.lst tRange z.1, .lst tRange z.2.1, .bool z.2.2.1, .int .i64 z.2.2.2], [])) (fun z => ((.exit 0), [.lst tRange z.1, .lst tRange z.2.1, .bool z.2.2.1, .int .i64 z.2.2.2], [])))
theorem wm0 (x : q2T) : exec G65 ⟨0, 27, vfg⟩ (vad Try.f76 0) (va5 ⟨0, 27, vfg⟩ [0, 1, 4, 5] []) (va3 (va0 27) [0, 1, 4, 5] (v87 x)) (v7b x) = vj3 x (Sum.elim (fun y => some ⟨.norm, v87 y, v7b y⟩) fun z => some ⟨(v3t z).1, (v3t z).2.1, (v3t z).2.2⟩) := by
  kernel_rfl
theorem wne : ∀ sp, (vfg 0) = some sp → va8 G65 ⟨0, 27, vfg⟩ sp (vad Try.f76 0) := by
  intro sp hsp vals st k r h
  cases hsp
  dsimp only at h
  rcases vai h with ⟨p, q, rfl, rfl, h⟩ | h
  · exact vaq wec v87 v7b v3t (fun z => by rcases z with z | z <;> (intro h; cases h)) wm0 Fuel (p.1, p.2.1, p.2.2.1, p.2.2.2.1) _ k r (fun z => by rcases z with z | z <;> rfl) h
  cases h
theorem w2a (a0 : (List van)) (a1 : (List van)) : var G65 vfg Try.f76 [.lst tRange a0, .lst tRange a1] [] = vwm a0 a1 (fun (y : Bool) => some ⟨.ret, [.bool y], []⟩) := by rw [wk2]; kernel_rfl
theorem w2v : vao G65 ⟨0, 27, vfg⟩ (Try.f76.body.getD .skip) :=
  vaf (ids := [0]) (by kernel_rfl) (by kernel_rfl) ⟨wne, trivial⟩
theorem w0h : val Try.prog 76 whn := by
  refine told G65_ok follows Try.func76 (c := Try.f76.body.getD .skip) (by kernel_rfl) ?_
  intro args s k r hk
  unfold whn at hk
  rcases vag hk with ⟨p, q, rfl, rfl⟩ | hk
  · exact ⟨vfg, (wtu p.1 p.2.1).map _, w2a p.1 p.2.1, w2v⟩
  cases hk
def G66 : Glob := G65.add 76 whn
theorem G66_ok : GlobOk Try.prog G66 := G65_ok.add ⟨Try.f76, Try.func76, by kernel_rfl, by kernel_rfl⟩ w0h
def vs7 : Nat → Option LoopSpec
  | _ => none
theorem w1i (a0 : ByteArray) (a1 : ByteArray) (a2 : Bool) (a3 : ByteArray) (a4 : ByteArray) (a5 : Bool) : var G66 vs7 Try.f150 [.agg [.str a0, .str a1, .bool a2], .agg [.str a3, .str a4, .bool a5]] [] = vuw (a0, (a1, a2)) (a3, (a4, a5)) (fun (y : Bool) => some ⟨.ret, [.bool y], []⟩) := by rw [wik]; kernel_rfl
theorem wxg : vao G66 ⟨0, 20, vs7⟩ (Try.f150.body.getD .skip) :=
  vaf (ids := []) (by kernel_rfl) (by kernel_rfl) trivial
theorem ww8 : val Try.prog 150 wjz := by
  refine told G66_ok follows Try.func150 (c := Try.f150.body.getD .skip) (by kernel_rfl) ?_
  intro args s k r hk
  unfold wjz at hk
  rcases vag hk with ⟨p, q, rfl, rfl⟩ | hk
  · exact ⟨vs7, (wsq (p.1.1, (p.1.2.1, p.1.2.2.1)) (p.2.1.1, (p.2.1.2.1, p.2.1.2.2.1))).map _, w1i p.1.1 p.1.2.1 p.1.2.2.1 p.2.1.1 p.2.1.2.1 p.2.1.2.2.1, wxg⟩
  cases hk
def G67 : Glob := G66.add 150 wjz
theorem G67_ok : GlobOk Try.prog G67 := G66_ok.add ⟨Try.f150, Try.func150, by kernel_rfl, by kernel_rfl⟩ ww8
def vfi : Nat → Option LoopSpec
  | 0 => some ⟨[0, 1, 4, 5], [], fun vals st k => vam [.lst tWrite, .lst tWrite, .bool, .int .i64] [] vals st (fun p q => vah vjw Fuel (p.1, p.2.1, p.2.2.1, p.2.2.2.1) (Sum.elim (fun z => k .ret [.lst tWrite z.1, .lst tWrite z.2.1, .bool z.2.2.1, .int .i64 z.2.2.2] []) (fun z => k (.exit 0) [.lst tWrite z.1, .lst tWrite z.2.1, .bool z.2.2.1, .int .i64 z.2.2.2] [])))
      (none)⟩
  | 2000006 => some ⟨[0, 2, 4, 6, 8, 10, 12, 14, 16, 18], [], fun _ _ _ => none⟩
  | _ => none
def v9e : q16T → List AV := (fun x => [.lst tWrite x.1, .lst tWrite x.2.1, .bool x.2.2.1, .int .i64 x.2.2.2])
def v9c : q16T → St := (fun x => [])
def v1o : (q16T ⊕ q16T) → Out × List AV × St := (Sum.elim (fun z => (.ret, [.lst tWrite z.1, .lst tWrite z.2.1, .bool z.2.2.1, .int .i64 z.2.2.2], [])) (fun z => ((.exit 0), [.lst tWrite z.1, .lst tWrite z.2.1, .bool z.2.2.1, .int .i64 z.2.2.2], [])))
theorem wnf (x : q16T) : exec G67 ⟨0, 27, vfi⟩ (vad Try.f77 0) (va5 ⟨0, 27, vfi⟩ [0, 1, 4, 5] []) (va3 (va0 27) [0, 1, 4, 5] (v9e x)) (v9c x) = vjw x (Sum.elim (fun y => some ⟨.norm, v9e y, v9c y⟩) fun z => some ⟨(v1o z).1, (v1o z).2.1, (v1o z).2.2⟩) := by
  kernel_rfl
theorem wo8 : ∀ sp, (vfi 0) = some sp → va8 G67 ⟨0, 27, vfi⟩ sp (vad Try.f77 0) := by
  intro sp hsp vals st k r h
  cases hsp
  dsimp only at h
  rcases vai h with ⟨p, q, rfl, rfl, h⟩ | h
  · exact vaq wdy v9e v9c v1o (fun z => by rcases z with z | z <;> (intro h; cases h)) wnf Fuel (p.1, p.2.1, p.2.2.1, p.2.2.2.1) _ k r (fun z => by rcases z with z | z <;> rfl) h
  cases h
theorem w29 (a0 : (List vaj)) (a1 : (List vaj)) : var G67 vfi Try.f77 [.lst tWrite a0, .lst tWrite a1] [] = vvj a0 a1 (fun (y : Bool) => some ⟨.ret, [.bool y], []⟩) := by rw [wld]; kernel_rfl
theorem w2c : vao G67 ⟨0, 27, vfi⟩ (Try.f77.body.getD .skip) :=
  vaf (ids := [0]) (by kernel_rfl) (by kernel_rfl) ⟨wo8, trivial⟩
theorem w3i : val Try.prog 77 wi5 := by
  refine told G67_ok follows Try.func77 (c := Try.f77.body.getD .skip) (by kernel_rfl) ?_
  intro args s k r hk
  unfold wi5 at hk
  rcases vag hk with ⟨p, q, rfl, rfl⟩ | hk
  · exact ⟨vfi, (wtg p.1 p.2.1).map _, w29 p.1 p.2.1, w2c⟩
  cases hk
def G68 : Glob := G67.add 77 wi5
theorem G68_ok : GlobOk Try.prog G68 := G67_ok.add ⟨Try.f77, Try.func77, by kernel_rfl, by kernel_rfl⟩ w3i
def vsq : Nat → Option LoopSpec
  | _ => none
theorem wxj (a0 : Int) (a1 : Int) (a2 : Int) (a3 : Int) (a4 : (List van)) (a5 : (List vaj)) (a6 : Bool) (a7 : ByteArray) (a8 : Int) (a9 : Int) (a10 : Int) (a11 : Int) (a12 : (List van)) (a13 : (List vaj)) (a14 : Bool) (a15 : ByteArray) : var G68 vsq Try.f18 [.agg [.int .i64 a0, .int .i64 a1, .int .i64 a2, .int .i64 a3, .lst tRange a4, .lst tWrite a5, .bool a6, .str a7], .agg [.int .i64 a8, .int .i64 a9, .int .i64 a10, .int .i64 a11, .lst tRange a12, .lst tWrite a13, .bool a14, .str a15]] [] = vtb (a0, (a1, (a2, (a3, (a4, (a5, (a6, a7))))))) (a8, (a9, (a10, (a11, (a12, (a13, (a14, a15))))))) (fun (y : Bool) => some ⟨.ret, [.bool y], []⟩) := by rw [whv]; kernel_rfl
theorem wxq : vao G68 ⟨0, 47, vsq⟩ (Try.f18.body.getD .skip) :=
  vaf (ids := []) (by kernel_rfl) (by kernel_rfl) trivial
theorem w0f : val Try.prog 18 wk8 := by
  refine told G68_ok follows Try.func18 (c := Try.f18.body.getD .skip) (by kernel_rfl) ?_
  intro args s k r hk
  unfold wk8 at hk
  rcases vag hk with ⟨p, q, rfl, rfl⟩ | hk
  · exact ⟨vsq, (wte (p.1.1, (p.1.2.1, (p.1.2.2.1, (p.1.2.2.2.1, (p.1.2.2.2.2.1, (p.1.2.2.2.2.2.1, (p.1.2.2.2.2.2.2.1, p.1.2.2.2.2.2.2.2.1))))))) (p.2.1.1, (p.2.1.2.1, (p.2.1.2.2.1, (p.2.1.2.2.2.1, (p.2.1.2.2.2.2.1, (p.2.1.2.2.2.2.2.1, (p.2.1.2.2.2.2.2.2.1, p.2.1.2.2.2.2.2.2.2.1)))))))).map _, wxj p.1.1 p.1.2.1 p.1.2.2.1 p.1.2.2.2.1 p.1.2.2.2.2.1 p.1.2.2.2.2.2.1 p.1.2.2.2.2.2.2.1 p.1.2.2.2.2.2.2.2.1 p.2.1.1 p.2.1.2.1 p.2.1.2.2.1 p.2.1.2.2.2.1 p.2.1.2.2.2.2.1 p.2.1.2.2.2.2.2.1 p.2.1.2.2.2.2.2.2.1 p.2.1.2.2.2.2.2.2.2.1, wxq⟩
  cases hk
def G69 : Glob := G68.add 18 wk8
theorem G69_ok : GlobOk Try.prog G69 := G68_ok.add ⟨Try.f18, Try.func18, by kernel_rfl, by kernel_rfl⟩ w0f
def vfq : Nat → Option LoopSpec
  | 0 => some ⟨[0, 1, 4, 5], [], fun vals st k => vam [.lst tTxn, .lst tTxn, .bool, .int .i64] [] vals st (fun p q => vah vjl Fuel (p.1, p.2.1, p.2.2.1, p.2.2.2.1) (Sum.elim (fun z => k .ret [.lst tTxn z.1, .lst tTxn z.2.1, .bool z.2.2.1, .int .i64 z.2.2.2] []) (fun z => k (.exit 0) [.lst tTxn z.1, .lst tTxn z.2.1, .bool z.2.2.1, .int .i64 z.2.2.2] [])))
      (none)⟩
  | 2000006 => some ⟨[0, 2, 4, 6, 8, 10, 12, 14, 16, 18], [], fun _ _ _ => none⟩
  | _ => none
def v8t : q5T → List AV := (fun x => [.lst tTxn x.1, .lst tTxn x.2.1, .bool x.2.2.1, .int .i64 x.2.2.2])
def v9j : q5T → St := (fun x => [])
def v12 : (q5T ⊕ q5T) → Out × List AV × St := (Sum.elim (fun z => (.ret, [.lst tTxn z.1, .lst tTxn z.2.1, .bool z.2.2.1, .int .i64 z.2.2.2], [])) (fun z => ((.exit 0), [.lst tTxn z.1, .lst tTxn z.2.1, .bool z.2.2.1, .int .i64 z.2.2.2], [])))
theorem wsa (x : q5T) : exec G69 ⟨0, 27, vfq⟩ (vad Try.f134 0) (va5 ⟨0, 27, vfq⟩ [0, 1, 4, 5] []) (va3 (va0 27) [0, 1, 4, 5] (v8t x)) (v9j x) = vjl x (Sum.elim (fun y => some ⟨.norm, v8t y, v9j y⟩) fun z => some ⟨(v12 z).1, (v12 z).2.1, (v12 z).2.2⟩) := by
  kernel_rfl
theorem wrk : ∀ sp, (vfq 0) = some sp → va8 G69 ⟨0, 27, vfq⟩ sp (vad Try.f134 0) := by
  intro sp hsp vals st k r h
  cases hsp
  dsimp only at h
  rcases vai h with ⟨p, q, rfl, rfl, h⟩ | h
  · exact vaq wak v8t v9j v12 (fun z => by rcases z with z | z <;> (intro h; cases h)) wsa Fuel (p.1, p.2.1, p.2.2.1, p.2.2.2.1) _ k r (fun z => by rcases z with z | z <;> rfl) h
  cases h
theorem w2b (a0 : (List dTxn)) (a1 : (List dTxn)) : var G69 vfq Try.f134 [.lst tTxn a0, .lst tTxn a1] [] = vo6 a0 a1 (fun (y : Bool) => some ⟨.ret, [.bool y], []⟩) := by rw [wjr]; kernel_rfl
theorem wx4 : vao G69 ⟨0, 27, vfq⟩ (Try.f134.body.getD .skip) :=
  vaf (ids := [0]) (by kernel_rfl) (by kernel_rfl) ⟨wrk, trivial⟩
theorem wxk : val Try.prog 134 wi8 := by
  refine told G69_ok follows Try.func134 (c := Try.f134.body.getD .skip) (by kernel_rfl) ?_
  intro args s k r hk
  unfold wi8 at hk
  rcases vag hk with ⟨p, q, rfl, rfl⟩ | hk
  · exact ⟨vfq, (wd8 p.1 p.2.1).map _, w2b p.1 p.2.1, wx4⟩
  cases hk
def G70 : Glob := G69.add 134 wi8
theorem G70_ok : GlobOk Try.prog G70 := G69_ok.add ⟨Try.f134, Try.func134, by kernel_rfl, by kernel_rfl⟩ wxk
def vrh : Nat → Option LoopSpec
  | _ => none
theorem w0l (a0 : (List vac)) (a1 : (List dTxn)) (a2 : (List dTxn)) (a3 : Int) (a4 : Int) (a5 : (List vac)) (a6 : (List dTxn)) (a7 : (List dTxn)) (a8 : Int) (a9 : Int) : var G70 vrh Try.f63 [.agg [.lst tVersion a0, .lst tTxn a1, .lst tTxn a2, .int .i64 a3, .int .i64 a4], .agg [.lst tVersion a5, .lst tTxn a6, .lst tTxn a7, .int .i64 a8, .int .i64 a9]] [] = vvm (a0, (a1, (a2, (a3, a4)))) (a5, (a6, (a7, (a8, a9)))) (fun (y : Bool) => some ⟨.ret, [.bool y], []⟩) := by rw [wav]; kernel_rfl
theorem w15 : vao G70 ⟨0, 33, vrh⟩ (Try.f63.body.getD .skip) :=
  vaf (ids := []) (by kernel_rfl) (by kernel_rfl) trivial
theorem w3b : val Try.prog 63 wgc := by
  refine told G70_ok follows Try.func63 (c := Try.f63.body.getD .skip) (by kernel_rfl) ?_
  intro args s k r hk
  unfold wgc at hk
  rcases vag hk with ⟨p, q, rfl, rfl⟩ | hk
  · exact ⟨vrh, (wtn (p.1.1, (p.1.2.1, (p.1.2.2.1, (p.1.2.2.2.1, p.1.2.2.2.2.1)))) (p.2.1.1, (p.2.1.2.1, (p.2.1.2.2.1, (p.2.1.2.2.2.1, p.2.1.2.2.2.2.1))))).map _, w0l p.1.1 p.1.2.1 p.1.2.2.1 p.1.2.2.2.1 p.1.2.2.2.2.1 p.2.1.1 p.2.1.2.1 p.2.1.2.2.1 p.2.1.2.2.2.1 p.2.1.2.2.2.2.1, w15⟩
  cases hk
def G71 : Glob := G70.add 63 wgc
theorem G71_ok : GlobOk Try.prog G71 := G70_ok.add ⟨Try.f63, Try.func63, by kernel_rfl, by kernel_rfl⟩ w3b
def vsa : Nat → Option LoopSpec
  | _ => none
theorem wzi (a0 : (List vac)) (a1 : (List dTxn)) (a2 : (List dTxn)) (a3 : Int) (a4 : Int) (a5 : (List dTxn)) (a6 : (List vac)) (a7 : (List dTxn)) (a8 : (List dTxn)) (a9 : Int) (a10 : Int) (a11 : (List dTxn)) : var G71 vsa Try.f54 [.agg [.lst tVersion a0, .lst tTxn a1, .lst tTxn a2, .int .i64 a3, .int .i64 a4, .lst tTxn a5], .agg [.lst tVersion a6, .lst tTxn a7, .lst tTxn a8, .int .i64 a9, .int .i64 a10, .lst tTxn a11]] [] = vhq ((a0, (a1, (a2, (a3, a4)))), a5) ((a6, (a7, (a8, (a9, a10)))), a11) (fun (y : Bool) => some ⟨.ret, [.bool y], []⟩) := by rw [wc1]; kernel_rfl
theorem w1m : vao G71 ⟨0, 17, vsa⟩ (Try.f54.body.getD .skip) :=
  vaf (ids := []) (by kernel_rfl) (by kernel_rfl) trivial
theorem wxa : val Try.prog 54 wmk := by
  refine told G71_ok follows Try.func54 (c := Try.f54.body.getD .skip) (by kernel_rfl) ?_
  intro args s k r hk
  unfold wmk at hk
  rcases vag hk with ⟨p, q, rfl, rfl⟩ | hk
  · exact ⟨vsa, (v5q ((p.1.1, (p.1.2.1, (p.1.2.2.1, (p.1.2.2.2.1, p.1.2.2.2.2.1)))), p.1.2.2.2.2.2.1) ((p.2.1.1, (p.2.1.2.1, (p.2.1.2.2.1, (p.2.1.2.2.2.1, p.2.1.2.2.2.2.1)))), p.2.1.2.2.2.2.2.1)).map _, wzi p.1.1 p.1.2.1 p.1.2.2.1 p.1.2.2.2.1 p.1.2.2.2.2.1 p.1.2.2.2.2.2.1 p.2.1.1 p.2.1.2.1 p.2.1.2.2.1 p.2.1.2.2.2.1 p.2.1.2.2.2.2.1 p.2.1.2.2.2.2.2.1, w1m⟩
  cases hk
def G72 : Glob := G71.add 54 wmk
theorem G72_ok : GlobOk Try.prog G72 := G71_ok.add ⟨Try.f54, Try.func54, by kernel_rfl, by kernel_rfl⟩ wxa
def ve7 : Nat → Option LoopSpec
  | 0 => some ⟨[0, 3], [], fun vals st k => vam [.int .i64, .str] [] vals st (fun p q => vah vlv Fuel (p.1, p.2.1) (fun z => k (.exit 0) [.int .i64 z.1, .str z.2] []))
      (none)⟩
  | _ => none
def v7x : (Int × ByteArray) → List AV := (fun x => [.int .i64 x.1, .str x.2])
def v9r : (Int × ByteArray) → St := (fun x => [])
def v2q : (Int × ByteArray) → Out × List AV × St := (fun z => ((.exit 0), [.int .i64 z.1, .str z.2], []))
theorem wn9 (x : (Int × ByteArray)) : exec G72 ⟨0, 20, ve7⟩ (vad Try.f81 0) (va5 ⟨0, 20, ve7⟩ [0, 3] []) (va3 (va0 20) [0, 3] (v7x x)) (v9r x) = vlv x (Sum.elim (fun y => some ⟨.norm, v7x y, v9r y⟩) fun z => some ⟨(v2q z).1, (v2q z).2.1, (v2q z).2.2⟩) := by
  kernel_rfl
theorem wrd : ∀ sp, (ve7 0) = some sp → va8 G72 ⟨0, 20, ve7⟩ sp (vad Try.f81 0) := by
  intro sp hsp vals st k r h
  cases hsp
  dsimp only at h
  rcases vai h with ⟨p, q, rfl, rfl, h⟩ | h
  · exact vaq wcb v7x v9r v2q (fun z => by (intro h; cases h)) wn9 Fuel (p.1, p.2.1) _ k r (fun z => rfl) h
  cases h
theorem wv3 (a0 : Int) : var G72 ve7 Try.f81 [.int .i64 a0] [] = vck a0 (fun (y : ByteArray) => some ⟨.ret, [.str y], []⟩) := by rw [wiy]; kernel_rfl
theorem w2s : vao G72 ⟨0, 20, ve7⟩ (Try.f81.body.getD .skip) :=
  vaf (ids := [0]) (by kernel_rfl) (by kernel_rfl) ⟨wrd, trivial⟩
theorem wzu : val Try.prog 81 whq := by
  refine told G72_ok follows Try.func81 (c := Try.f81.body.getD .skip) (by kernel_rfl) ?_
  intro args s k r hk
  unfold whq at hk
  rcases vag hk with ⟨p, q, rfl, rfl⟩ | hk
  · exact ⟨ve7, (vhr p.1).map _, wv3 p.1, w2s⟩
  cases hk
def G73 : Glob := G72.add 81 whq
theorem G73_ok : GlobOk Try.prog G73 := G72_ok.add ⟨Try.f81, Try.func81, by kernel_rfl, by kernel_rfl⟩ wzu
def vfb : Nat → Option LoopSpec
  | 0 => some ⟨[0, 1, 5], [], fun vals st k => vam [.own 0, .int .i64, .int .i64] [.arr tVersion] vals st (fun p q => vah vjt Fuel (p.2.1, p.2.2.1, q.1) (fun z => k (.exit 0) [.own 0, .int .i64 z.1, .int .i64 z.2.1] [.arr tVersion z.2.2]))
      (none)⟩
  | _ => none
def v91 : (Int × Int × (List vac)) → List AV := (fun x => [.own 0, .int .i64 x.1, .int .i64 x.2.1])
def v69 : (Int × Int × (List vac)) → St := (fun x => [.arr tVersion x.2.2])
def v2a : (Int × Int × (List vac)) → Out × List AV × St := (fun z => ((.exit 0), [.own 0, .int .i64 z.1, .int .i64 z.2.1], [.arr tVersion z.2.2]))
theorem wpj (x : (Int × Int × (List vac))) : exec G73 ⟨1, 45, vfb⟩ (vad Try.f21 0) (va5 ⟨1, 45, vfb⟩ [0, 1, 5] []) (va3 (va0 45) [0, 1, 5] (v91 x)) (v69 x) = vjt x (Sum.elim (fun y => some ⟨.norm, v91 y, v69 y⟩) fun z => some ⟨(v2a z).1, (v2a z).2.1, (v2a z).2.2⟩) := by
  kernel_rfl
theorem wm6 : ∀ sp, (vfb 0) = some sp → va8 G73 ⟨1, 45, vfb⟩ sp (vad Try.f21 0) := by
  intro sp hsp vals st k r h
  cases hsp
  dsimp only at h
  rcases vai h with ⟨p, q, rfl, rfl, h⟩ | h
  · exact vaq wa7 v91 v69 v2a (fun z => by (intro h; cases h)) wpj Fuel (p.2.1, p.2.2.1, q.1) _ k r (fun z => rfl) h
  cases h
theorem wzj (a0 : Int) (a1 : (List vac)) : var G73 vfb Try.f21 [.own 0, .int .i64 a0] [.arr tVersion a1] = vzv a0 a1 (fun (y : (Int × (List vac))) => some ⟨.ret, [.int .i64 y.1], [.arr tVersion y.2]⟩) := by rw [wke]; kernel_rfl
theorem www : vao G73 ⟨1, 45, vfb⟩ (Try.f21.body.getD .skip) :=
  vaf (ids := [0]) (by kernel_rfl) (by kernel_rfl) ⟨wm6, trivial⟩
theorem vpy : val Try.prog 21 vec := by
  refine told G73_ok follows Try.func21 (c := Try.f21.body.getD .skip) (by kernel_rfl) ?_
  intro args s k r hk
  unfold vec at hk
  rcases vag hk with ⟨p, q, rfl, rfl⟩ | hk
  · exact ⟨vfb, (wt9 p.2.1 q.1).map _, wzj p.2.1 q.1, www⟩
  cases hk
def G74 : Glob := G73.add 21 vec
theorem G74_ok : GlobOk Try.prog G74 := G73_ok.add ⟨Try.f21, Try.func21, by kernel_rfl, by kernel_rfl⟩ vpy
def vfw : Nat → Option LoopSpec
  | 0 => some ⟨[0, 1, 5], [], fun vals st k => vam [.own 0, .int .i64, .int .i64] [.arr tRange] vals st (fun p q => vah vly Fuel (p.2.1, p.2.2.1, q.1) (fun z => k (.exit 0) [.own 0, .int .i64 z.1, .int .i64 z.2.1] [.arr tRange z.2.2]))
      (none)⟩
  | _ => none
def v85 : (Int × Int × (List van)) → List AV := (fun x => [.own 0, .int .i64 x.1, .int .i64 x.2.1])
def v6b : (Int × Int × (List van)) → St := (fun x => [.arr tRange x.2.2])
def v1f : (Int × Int × (List van)) → Out × List AV × St := (fun z => ((.exit 0), [.own 0, .int .i64 z.1, .int .i64 z.2.1], [.arr tRange z.2.2]))
theorem wm2 (x : (Int × Int × (List van))) : exec G74 ⟨1, 29, vfw⟩ (vad Try.f79 0) (va5 ⟨1, 29, vfw⟩ [0, 1, 5] []) (va3 (va0 29) [0, 1, 5] (v85 x)) (v6b x) = vly x (Sum.elim (fun y => some ⟨.norm, v85 y, v6b y⟩) fun z => some ⟨(v1f z).1, (v1f z).2.1, (v1f z).2.2⟩) := by
  kernel_rfl
theorem wq5 : ∀ sp, (vfw 0) = some sp → va8 G74 ⟨1, 29, vfw⟩ sp (vad Try.f79 0) := by
  intro sp hsp vals st k r h
  cases hsp
  dsimp only at h
  rcases vai h with ⟨p, q, rfl, rfl, h⟩ | h
  · exact vaq waa v85 v6b v1f (fun z => by (intro h; cases h)) wm2 Fuel (p.2.1, p.2.2.1, q.1) _ k r (fun z => rfl) h
  cases h
theorem wx3 (a0 : Int) (a1 : (List van)) : var G74 vfw Try.f79 [.own 0, .int .i64 a0] [.arr tRange a1] = vy8 a0 a1 (fun (y : (Int × (List van))) => some ⟨.ret, [.int .i64 y.1], [.arr tRange y.2]⟩) := by rw [wh6]; kernel_rfl
theorem wzz : vao G74 ⟨1, 29, vfw⟩ (Try.f79.body.getD .skip) :=
  vaf (ids := [0]) (by kernel_rfl) (by kernel_rfl) ⟨wq5, trivial⟩
theorem vrn : val Try.prog 79 vfe := by
  refine told G74_ok follows Try.func79 (c := Try.f79.body.getD .skip) (by kernel_rfl) ?_
  intro args s k r hk
  unfold vfe at hk
  rcases vag hk with ⟨p, q, rfl, rfl⟩ | hk
  · exact ⟨vfw, (ws4 p.2.1 q.1).map _, wx3 p.2.1 q.1, wzz⟩
  cases hk
def G75 : Glob := G74.add 79 vfe
theorem G75_ok : GlobOk Try.prog G75 := G74_ok.add ⟨Try.f79, Try.func79, by kernel_rfl, by kernel_rfl⟩ vrn
def vfc : Nat → Option LoopSpec
  | 0 => some ⟨[0, 1, 5], [], fun vals st k => vam [.own 0, .int .i64, .int .i64] [.arr tWrite] vals st (fun p q => vah vmn Fuel (p.2.1, p.2.2.1, q.1) (fun z => k (.exit 0) [.own 0, .int .i64 z.1, .int .i64 z.2.1] [.arr tWrite z.2.2]))
      (none)⟩
  | _ => none
def v61 : (Int × Int × (List vaj)) → List AV := (fun x => [.own 0, .int .i64 x.1, .int .i64 x.2.1])
def v9q : (Int × Int × (List vaj)) → St := (fun x => [.arr tWrite x.2.2])
def v1v : (Int × Int × (List vaj)) → Out × List AV × St := (fun z => ((.exit 0), [.own 0, .int .i64 z.1, .int .i64 z.2.1], [.arr tWrite z.2.2]))
theorem wos (x : (Int × Int × (List vaj))) : exec G75 ⟨1, 38, vfc⟩ (vad Try.f80 0) (va5 ⟨1, 38, vfc⟩ [0, 1, 5] []) (va3 (va0 38) [0, 1, 5] (v61 x)) (v9q x) = vmn x (Sum.elim (fun y => some ⟨.norm, v61 y, v9q y⟩) fun z => some ⟨(v1v z).1, (v1v z).2.1, (v1v z).2.2⟩) := by
  kernel_rfl
theorem wq6 : ∀ sp, (vfc 0) = some sp → va8 G75 ⟨1, 38, vfc⟩ sp (vad Try.f80 0) := by
  intro sp hsp vals st k r h
  cases hsp
  dsimp only at h
  rcases vai h with ⟨p, q, rfl, rfl, h⟩ | h
  · exact vaq wek v61 v9q v1v (fun z => by (intro h; cases h)) wos Fuel (p.2.1, p.2.2.1, q.1) _ k r (fun z => rfl) h
  cases h
theorem wyc (a0 : Int) (a1 : (List vaj)) : var G75 vfc Try.f80 [.own 0, .int .i64 a0] [.arr tWrite a1] = vzu a0 a1 (fun (y : (Int × (List vaj))) => some ⟨.ret, [.int .i64 y.1], [.arr tWrite y.2]⟩) := by rw [wj6]; kernel_rfl
theorem wyh : vao G75 ⟨1, 38, vfc⟩ (Try.f80.body.getD .skip) :=
  vaf (ids := [0]) (by kernel_rfl) (by kernel_rfl) ⟨wq6, trivial⟩
theorem vsm : val Try.prog 80 vfv := by
  refine told G75_ok follows Try.func80 (c := Try.f80.body.getD .skip) (by kernel_rfl) ?_
  intro args s k r hk
  unfold vfv at hk
  rcases vag hk with ⟨p, q, rfl, rfl⟩ | hk
  · exact ⟨vfc, (wsu p.2.1 q.1).map _, wyc p.2.1 q.1, wyh⟩
  cases hk
def G76 : Glob := G75.add 80 vfv
theorem G76_ok : GlobOk Try.prog G76 := G75_ok.add ⟨Try.f80, Try.func80, by kernel_rfl, by kernel_rfl⟩ vsm
end
end Go.VE
