/- Each function told by its native program; written by gen.py. -/
import Derived.Test.YtpmahbmokfaflaaReadBaseS1
namespace Go.VE
open Go.Proofs
noncomputable section
set_option linter.unusedVariables false
set_option linter.unusedSimpArgs false
set_option maxRecDepth 100000
def vbf : Nat → Option LoopSpec
  | 0 => some ⟨[1, 2, 38, 39, 40], [], fun vals st k => vaj [.bp 0 0, .bool, .lst tVersion, .int .i64, .int .i64] [.box [.lst tVersion, .lst tTxn, .lst tTxn, .int .i64, .int .i64]] vals st (fun p q => vai vk6 Fuel (p.2.1, p.2.2.1, p.2.2.2.1, p.2.2.2.2.1, q.1.1, q.1.2.1, q.1.2.2.1, q.1.2.2.2.1, q.1.2.2.2.2.1) (Sum.elim (fun z => k .ret [.bp 0 0, .bool z.1, .lst tVersion z.2.1, .int .i64 z.2.2.1, .int .i64 z.2.2.2.1] [.box [.lst tVersion z.2.2.2.2.1, .lst tTxn z.2.2.2.2.2.1, .lst tTxn z.2.2.2.2.2.2.1, .int .i64 z.2.2.2.2.2.2.2.1, .int .i64 z.2.2.2.2.2.2.2.2]]) (fun z => k (.exit 0) [.bp 0 0, .bool z.1, .lst tVersion z.2.1, .int .i64 z.2.2.1, .int .i64 z.2.2.2.1] [.box [.lst tVersion z.2.2.2.2.1, .lst tTxn z.2.2.2.2.2.1, .lst tTxn z.2.2.2.2.2.2.1, .int .i64 z.2.2.2.2.2.2.2.1, .int .i64 z.2.2.2.2.2.2.2.2]])))
      (none)⟩
  | 2 => some ⟨[1, 2, 51, 52, 53], [], fun vals st k => vaj [.bp 0 0, .bool, .lst tTxn, .int .i64, .int .i64] [.box [.lst tVersion, .lst tTxn, .lst tTxn, .int .i64, .int .i64]] vals st (fun p q => vai vlk Fuel (p.2.1, p.2.2.1, p.2.2.2.1, p.2.2.2.2.1, q.1.1, q.1.2.1, q.1.2.2.1, q.1.2.2.2.1, q.1.2.2.2.2.1) (Sum.elim (fun z => k .ret [.bp 0 0, .bool z.1, .lst tTxn z.2.1, .int .i64 z.2.2.1, .int .i64 z.2.2.2.1] [.box [.lst tVersion z.2.2.2.2.1, .lst tTxn z.2.2.2.2.2.1, .lst tTxn z.2.2.2.2.2.2.1, .int .i64 z.2.2.2.2.2.2.2.1, .int .i64 z.2.2.2.2.2.2.2.2]]) (fun z => k (.exit 2) [.bp 0 0, .bool z.1, .lst tTxn z.2.1, .int .i64 z.2.2.1, .int .i64 z.2.2.2.1] [.box [.lst tVersion z.2.2.2.2.1, .lst tTxn z.2.2.2.2.2.1, .lst tTxn z.2.2.2.2.2.2.1, .int .i64 z.2.2.2.2.2.2.2.1, .int .i64 z.2.2.2.2.2.2.2.2]])))
      (none)⟩
  | 4 => some ⟨[1, 2, 91, 92, 93], [], fun vals st k => vaj [.bp 0 0, .bool, .lst tTxn, .int .i64, .int .i64] [.box [.lst tVersion, .lst tTxn, .lst tTxn, .int .i64, .int .i64]] vals st (fun p q => vai vku Fuel (p.2.1, p.2.2.1, p.2.2.2.1, p.2.2.2.2.1, q.1.1, q.1.2.1, q.1.2.2.1, q.1.2.2.2.1, q.1.2.2.2.2.1) (Sum.elim (fun z => k .ret [.bp 0 0, .bool z.1, .lst tTxn z.2.1, .int .i64 z.2.2.1, .int .i64 z.2.2.2.1] [.box [.lst tVersion z.2.2.2.2.1, .lst tTxn z.2.2.2.2.2.1, .lst tTxn z.2.2.2.2.2.2.1, .int .i64 z.2.2.2.2.2.2.2.1, .int .i64 z.2.2.2.2.2.2.2.2]]) (fun z => k (.exit 4) [.bp 0 0, .bool z.1, .lst tTxn z.2.1, .int .i64 z.2.2.1, .int .i64 z.2.2.2.1] [.box [.lst tVersion z.2.2.2.2.1, .lst tTxn z.2.2.2.2.2.1, .lst tTxn z.2.2.2.2.2.2.1, .int .i64 z.2.2.2.2.2.2.2.1, .int .i64 z.2.2.2.2.2.2.2.2]])))
      (none)⟩
  | 5000003 => some ⟨[1, 2], [], fun vals st k => vaj [.bp 0 0, .bool] [.box [.lst tVersion, .lst tTxn, .lst tTxn, .int .i64, .int .i64]] vals st (fun p q => vdm (p.2.1, q.1.1, q.1.2.1, q.1.2.2.1, q.1.2.2.2.1, q.1.2.2.2.2.1) (fun z => k .ret [.bp 0 0, .bool z.1] [.box [.lst tVersion z.2.1, .lst tTxn z.2.2.1, .lst tTxn z.2.2.2.1, .int .i64 z.2.2.2.2.1, .int .i64 z.2.2.2.2.2]]))
      (none)⟩
  | 2000012 => some ⟨[0, 3, 4, 6, 8, 11, 12, 14, 16, 18, 20, 22, 24, 26, 28, 30, 32, 34, 36, 38, 40, 42, 44, 46, 48, 50, 52, 54, 56, 58, 60], [], fun _ _ _ => none⟩
  | 2000018 => some ⟨[0, 3, 4, 6, 8, 11, 12, 14, 16, 18, 20, 22, 24, 26, 28, 30, 32, 34, 36, 38, 40, 42, 44, 46, 48, 50, 52, 54, 56, 58, 60], [], fun _ _ _ => none⟩
  | 2000021 => some ⟨[0, 2, 4, 6, 12, 14, 9, 11, 17, 18], [], fun _ _ _ => none⟩
  | _ => none
def wa7 : q18T → List AV := (fun x => [.bp 0 0, .bool x.1, .lst tVersion x.2.1, .int .i64 x.2.2.1, .int .i64 x.2.2.2.1])
def v85 : q18T → St := (fun x => [.box [.lst tVersion x.2.2.2.2.1, .lst tTxn x.2.2.2.2.2.1, .lst tTxn x.2.2.2.2.2.2.1, .int .i64 x.2.2.2.2.2.2.2.1, .int .i64 x.2.2.2.2.2.2.2.2]])
def v5m : (q18T ⊕ q18T) → Out × List AV × St := (Sum.elim (fun z => (.ret, [.bp 0 0, .bool z.1, .lst tVersion z.2.1, .int .i64 z.2.2.1, .int .i64 z.2.2.2.1], [.box [.lst tVersion z.2.2.2.2.1, .lst tTxn z.2.2.2.2.2.1, .lst tTxn z.2.2.2.2.2.2.1, .int .i64 z.2.2.2.2.2.2.2.1, .int .i64 z.2.2.2.2.2.2.2.2]])) (fun z => ((.exit 0), [.bp 0 0, .bool z.1, .lst tVersion z.2.1, .int .i64 z.2.2.1, .int .i64 z.2.2.2.1], [.box [.lst tVersion z.2.2.2.2.1, .lst tTxn z.2.2.2.2.2.1, .lst tTxn z.2.2.2.2.2.2.1, .int .i64 z.2.2.2.2.2.2.2.1, .int .i64 z.2.2.2.2.2.2.2.2]])))
theorem wr0 (x : q18T) : exec G57 ⟨0, 139, vbf⟩ (vad Try.f79 0) (va3 ⟨0, 139, vbf⟩ [1, 2, 38, 39, 40] []) (va0 (vay 139) [1, 2, 38, 39, 40] (wa7 x)) (v85 x) = vk6 x (Sum.elim (fun y => some ⟨.norm, wa7 y, v85 y⟩) fun z => some ⟨(v5m z).1, (v5m z).2.1, (v5m z).2.2⟩) := by
  kernel_rfl
theorem wsi : ∀ sp, (vbf 0) = some sp → vbc G57 ⟨0, 139, vbf⟩ sp (vad Try.f79 0) := by
  intro sp hsp vals st k r h
  cases hsp
  dsimp only at h
  rcases vae h with ⟨p, q, rfl, rfl, h⟩ | h
  · exact vaq wbv wa7 v85 v5m (fun z => by rcases z with z | z <;> (intro h; cases h)) wr0 Fuel (p.2.1, p.2.2.1, p.2.2.2.1, p.2.2.2.2.1, q.1.1, q.1.2.1, q.1.2.2.1, q.1.2.2.2.1, q.1.2.2.2.2.1) _ k r (fun z => by rcases z with z | z <;> rfl) h
  cases h
def v9j : q16T → List AV := (fun x => [.bp 0 0, .bool x.1, .lst tTxn x.2.1, .int .i64 x.2.2.1, .int .i64 x.2.2.2.1])
def v94 : q16T → St := (fun x => [.box [.lst tVersion x.2.2.2.2.1, .lst tTxn x.2.2.2.2.2.1, .lst tTxn x.2.2.2.2.2.2.1, .int .i64 x.2.2.2.2.2.2.2.1, .int .i64 x.2.2.2.2.2.2.2.2]])
def v2j : (q16T ⊕ q16T) → Out × List AV × St := (Sum.elim (fun z => (.ret, [.bp 0 0, .bool z.1, .lst tTxn z.2.1, .int .i64 z.2.2.1, .int .i64 z.2.2.2.1], [.box [.lst tVersion z.2.2.2.2.1, .lst tTxn z.2.2.2.2.2.1, .lst tTxn z.2.2.2.2.2.2.1, .int .i64 z.2.2.2.2.2.2.2.1, .int .i64 z.2.2.2.2.2.2.2.2]])) (fun z => ((.exit 2), [.bp 0 0, .bool z.1, .lst tTxn z.2.1, .int .i64 z.2.2.1, .int .i64 z.2.2.2.1], [.box [.lst tVersion z.2.2.2.2.1, .lst tTxn z.2.2.2.2.2.1, .lst tTxn z.2.2.2.2.2.2.1, .int .i64 z.2.2.2.2.2.2.2.1, .int .i64 z.2.2.2.2.2.2.2.2]])))
theorem wr2 (x : q16T) : exec G57 ⟨0, 139, vbf⟩ (vad Try.f79 2) (va3 ⟨0, 139, vbf⟩ [1, 2, 51, 52, 53] []) (va0 (vay 139) [1, 2, 51, 52, 53] (v9j x)) (v94 x) = vlk x (Sum.elim (fun y => some ⟨.norm, v9j y, v94 y⟩) fun z => some ⟨(v2j z).1, (v2j z).2.1, (v2j z).2.2⟩) := by
  kernel_rfl
theorem wo5 : ∀ sp, (vbf 2) = some sp → vbc G57 ⟨0, 139, vbf⟩ sp (vad Try.f79 2) := by
  intro sp hsp vals st k r h
  cases hsp
  dsimp only at h
  rcases vae h with ⟨p, q, rfl, rfl, h⟩ | h
  · exact vaq wfp v9j v94 v2j (fun z => by rcases z with z | z <;> (intro h; cases h)) wr2 Fuel (p.2.1, p.2.2.1, p.2.2.2.1, p.2.2.2.2.1, q.1.1, q.1.2.1, q.1.2.2.1, q.1.2.2.2.1, q.1.2.2.2.2.1) _ k r (fun z => by rcases z with z | z <;> rfl) h
  cases h
def v82 : q16T → List AV := (fun x => [.bp 0 0, .bool x.1, .lst tTxn x.2.1, .int .i64 x.2.2.1, .int .i64 x.2.2.2.1])
def v78 : q16T → St := (fun x => [.box [.lst tVersion x.2.2.2.2.1, .lst tTxn x.2.2.2.2.2.1, .lst tTxn x.2.2.2.2.2.2.1, .int .i64 x.2.2.2.2.2.2.2.1, .int .i64 x.2.2.2.2.2.2.2.2]])
def v3k : (q16T ⊕ q16T) → Out × List AV × St := (Sum.elim (fun z => (.ret, [.bp 0 0, .bool z.1, .lst tTxn z.2.1, .int .i64 z.2.2.1, .int .i64 z.2.2.2.1], [.box [.lst tVersion z.2.2.2.2.1, .lst tTxn z.2.2.2.2.2.1, .lst tTxn z.2.2.2.2.2.2.1, .int .i64 z.2.2.2.2.2.2.2.1, .int .i64 z.2.2.2.2.2.2.2.2]])) (fun z => ((.exit 4), [.bp 0 0, .bool z.1, .lst tTxn z.2.1, .int .i64 z.2.2.1, .int .i64 z.2.2.2.1], [.box [.lst tVersion z.2.2.2.2.1, .lst tTxn z.2.2.2.2.2.1, .lst tTxn z.2.2.2.2.2.2.1, .int .i64 z.2.2.2.2.2.2.2.1, .int .i64 z.2.2.2.2.2.2.2.2]])))
theorem wrk (x : q16T) : exec G57 ⟨0, 139, vbf⟩ (vad Try.f79 4) (va3 ⟨0, 139, vbf⟩ [1, 2, 91, 92, 93] []) (va0 (vay 139) [1, 2, 91, 92, 93] (v82 x)) (v78 x) = vku x (Sum.elim (fun y => some ⟨.norm, v82 y, v78 y⟩) fun z => some ⟨(v3k z).1, (v3k z).2.1, (v3k z).2.2⟩) := by
  kernel_rfl
theorem wos : ∀ sp, (vbf 4) = some sp → vbc G57 ⟨0, 139, vbf⟩ sp (vad Try.f79 4) := by
  intro sp hsp vals st k r h
  cases hsp
  dsimp only at h
  rcases vae h with ⟨p, q, rfl, rfl, h⟩ | h
  · exact vaq wc8 v82 v78 v3k (fun z => by rcases z with z | z <;> (intro h; cases h)) wrk Fuel (p.2.1, p.2.2.1, p.2.2.2.1, p.2.2.2.2.1, q.1.1, q.1.2.1, q.1.2.2.1, q.1.2.2.2.1, q.1.2.2.2.2.1) _ k r (fun z => by rcases z with z | z <;> rfl) h
  cases h
def vpj : q17T → List AV := (fun x => [.bp 0 0, .bool x.1])
def vpl : q17T → St := (fun x => [.box [.lst tVersion x.2.1, .lst tTxn x.2.2.1, .lst tTxn x.2.2.2.1, .int .i64 x.2.2.2.2.1, .int .i64 x.2.2.2.2.2]])
def vhd : q17T → Out × List AV × St := (fun z => (.ret, [.bp 0 0, .bool z.1], [.box [.lst tVersion z.2.1, .lst tTxn z.2.2.1, .lst tTxn z.2.2.2.1, .int .i64 z.2.2.2.2.1, .int .i64 z.2.2.2.2.2]]))
theorem vzf (x : q17T) : exec G57 ⟨0, 139, vbf⟩ (vad Try.f79 5000003) (va3 ⟨0, 139, vbf⟩ [1, 2] []) (va0 (vay 139) [1, 2] (vpj x)) (vpl x) = vdm x (fun z => some ⟨(vhd z).1, (vhd z).2.1, (vhd z).2.2⟩) := by
  kernel_rfl
theorem v0k : ∀ sp, (vbf 5000003) = some sp → vep G57 ⟨0, 139, vbf⟩ sp (vad Try.f79 5000003) := by
  intro sp hsp vals st k r h
  cases hsp
  dsimp only at h
  rcases vae h with ⟨p, q, rfl, rfl, h⟩ | h
  · exact va5 vpq vpj vpl vhd vzf (p.2.1, q.1.1, q.1.2.1, q.1.2.2.1, q.1.2.2.2.1, q.1.2.2.2.2.1) _ k r (fun z => rfl) h
  cases h
theorem wyt (a0 : (List vac)) (a1 : (List dTxn)) (a2 : (List dTxn)) (a3 : Int) (a4 : Int) : var G57 vbf Try.f79 [.agg [.lst tVersion a0, .lst tTxn a1, .lst tTxn a2, .int .i64 a3, .int .i64 a4]] [] = vw7 (a0, (a1, (a2, (a3, a4)))) (fun (y : Bool) => some ⟨.ret, [.bool y], []⟩) := by rw [wib]; kernel_rfl
theorem ww6 : vao G57 ⟨0, 139, vbf⟩ (Try.f79.body.getD .skip) :=
  vah (ids := [0, 2, 4, 5000003]) (by kernel_rfl) (by kernel_rfl) ⟨wsi, ⟨wo5, ⟨wos, ⟨v0k, trivial⟩⟩⟩⟩
theorem w1v : val Try.prog 79 wl2 := by
  refine told G57_ok follows Try.func79 (c := Try.f79.body.getD .skip) (by kernel_rfl) ?_
  intro args s k r hk
  unfold wl2 at hk
  rcases vag hk with ⟨p, q, rfl, rfl⟩ | hk
  · exact ⟨vbf, (wui (p.1.1, (p.1.2.1, (p.1.2.2.1, (p.1.2.2.2.1, p.1.2.2.2.2.1))))).map _, wyt p.1.1 p.1.2.1 p.1.2.2.1 p.1.2.2.2.1 p.1.2.2.2.2.1, ww6⟩
  cases hk
def G58 : Glob := G57.add 79 wl2
theorem G58_ok : GlobOk Try.prog G58 := G57_ok.add ⟨Try.f79, Try.func79, by kernel_rfl, by kernel_rfl⟩ w1v
def vsx : Nat → Option LoopSpec
  | 2000005 => some ⟨[0, 2, 4, 6, 8, 10, 12, 15, 16, 18, 20, 22, 24], [], fun _ _ _ => none⟩
  | 1000001 => some ⟨[0], [], fun _ _ _ => none⟩
  | _ => none
theorem w08 (a0 : ByteArray) (a1 : Int) (a2 : Bool) : var G58 vsx Try.f155 [.bp 0 0] [.box [.str a0, .int .i64 a1, .bool a2]] = v6a a0 a1 a2 (fun (y : q42T) => some ⟨.ret, [.agg [.own 1, .own 2, .own 3, .int .i64 y.1, .int .i64 y.2.1]], [.box [.str y.2.2.1, .int .i64 y.2.2.2.1, .bool y.2.2.2.2.1], .arr tVersion y.2.2.2.2.2.1, .dep tTxn y.2.2.2.2.2.2.1 0, .dep tTxn y.2.2.2.2.2.2.2 0]⟩) := by rw [wha]; kernel_rfl
theorem wzt : vao G58 ⟨1, 31, vsx⟩ (Try.f155.body.getD .skip) :=
  vah (ids := []) (by kernel_rfl) (by kernel_rfl) trivial
theorem w2x : val Try.prog 155 wmu := by
  refine told G58_ok follows Try.func155 (c := Try.f155.body.getD .skip) (by kernel_rfl) ?_
  intro args s k r hk
  unfold wmu at hk
  rcases vag hk with ⟨p, q, rfl, rfl⟩ | hk
  · exact ⟨vsx, (wtg q.1.1 q.1.2.1 q.1.2.2.1).map _, w08 q.1.1 q.1.2.1 q.1.2.2.1, wzt⟩
  cases hk
def G59 : Glob := G58.add 155 wmu
theorem G59_ok : GlobOk Try.prog G59 := G58_ok.add ⟨Try.f155, Try.func155, by kernel_rfl, by kernel_rfl⟩ w2x
def vt1 : Nat → Option LoopSpec
  | 1000005 => some ⟨[0], [], fun _ _ _ => none⟩
  | 3000000 => some ⟨[], [some tVersion, some tTxn, some tTxn], fun _ _ _ => none⟩
  | _ => none
theorem wya (a0 : ByteArray) (a1 : Int) : var G59 vt1 Try.f69 [.str a0, .int .i64 a1] [] = vnq a0 a1 (fun (y : q50T) => some ⟨.ret, [.tup [.agg [.own 0, .own 1, .own 2, .int .i64 y.1, .int .i64 y.2.1], .int .i64 y.2.2.1, .bool y.2.2.2.1]], [.arr tVersion y.2.2.2.2.1, .dep tTxn y.2.2.2.2.2.1 0, .dep tTxn y.2.2.2.2.2.2 0]⟩) := by rw [wk3]; kernel_rfl
theorem wwc : vao G59 ⟨0, 25, vt1⟩ (Try.f69.body.getD .skip) :=
  vah (ids := []) (by kernel_rfl) (by kernel_rfl) trivial
theorem wzo : val Try.prog 69 wif := by
  refine told G59_ok follows Try.func69 (c := Try.f69.body.getD .skip) (by kernel_rfl) ?_
  intro args s k r hk
  unfold wif at hk
  rcases vag hk with ⟨p, q, rfl, rfl⟩ | hk
  · exact ⟨vt1, (v59 p.1 p.2.1).map _, wya p.1 p.2.1, wwc⟩
  cases hk
def G60 : Glob := G59.add 69 wif
theorem G60_ok : GlobOk Try.prog G60 := G59_ok.add ⟨Try.f69, Try.func69, by kernel_rfl, by kernel_rfl⟩ wzo
def vt5 : Nat → Option LoopSpec
  | _ => none
theorem wz8 (a0 : ByteArray) (a1 : ByteArray) (a2 : Bool) (a3 : Int) (a4 : ByteArray) (a5 : ByteArray) (a6 : Bool) (a7 : Int) : var G60 vt5 Try.f198 [.agg [.str a0, .str a1, .bool a2, .int .i64 a3], .agg [.str a4, .str a5, .bool a6, .int .i64 a7]] [] = vxi (a0, (a1, (a2, a3))) (a4, (a5, (a6, a7))) (fun (y : Bool) => some ⟨.ret, [.bool y], []⟩) := by rw [wnk]; kernel_rfl
theorem w16 : vao G60 ⟨0, 25, vt5⟩ (Try.f198.body.getD .skip) :=
  vah (ids := []) (by kernel_rfl) (by kernel_rfl) trivial
theorem w2s : val Try.prog 198 wg9 := by
  refine told G60_ok follows Try.func198 (c := Try.f198.body.getD .skip) (by kernel_rfl) ?_
  intro args s k r hk
  unfold wg9 at hk
  rcases vag hk with ⟨p, q, rfl, rfl⟩ | hk
  · exact ⟨vt5, (wss (p.1.1, (p.1.2.1, (p.1.2.2.1, p.1.2.2.2.1))) (p.2.1.1, (p.2.1.2.1, (p.2.1.2.2.1, p.2.1.2.2.2.1)))).map _, wz8 p.1.1 p.1.2.1 p.1.2.2.1 p.1.2.2.2.1 p.2.1.1 p.2.1.2.1 p.2.1.2.2.1 p.2.1.2.2.2.1, w16⟩
  cases hk
def G61 : Glob := G60.add 198 wg9
theorem G61_ok : GlobOk Try.prog G61 := G60_ok.add ⟨Try.f198, Try.func198, by kernel_rfl, by kernel_rfl⟩ w2s
def vf4 : Nat → Option LoopSpec
  | 0 => some ⟨[0, 1, 4, 5], [], fun vals st k => vaj [.lst tVersion, .lst tVersion, .bool, .int .i64] [] vals st (fun p q => vai vk8 Fuel (p.1, p.2.1, p.2.2.1, p.2.2.2.1) (Sum.elim (fun z => k .ret [.lst tVersion z.1, .lst tVersion z.2.1, .bool z.2.2.1, .int .i64 z.2.2.2] []) (fun z => k (.exit 0) [.lst tVersion z.1, .lst tVersion z.2.1, .bool z.2.2.1, .int .i64 z.2.2.2] [])))
      (none)⟩
  | 2000006 => some ⟨[0, 2, 4, 6, 8, 10, 12, 14, 16, 18], [], fun _ _ _ => none⟩
  | _ => none
def v97 : q8T → List AV := (fun x => [.lst tVersion x.1, .lst tVersion x.2.1, .bool x.2.2.1, .int .i64 x.2.2.2])
def v91 : q8T → St := (fun x => [])
def v4n : (q8T ⊕ q8T) → Out × List AV × St := (Sum.elim (fun z => (.ret, [.lst tVersion z.1, .lst tVersion z.2.1, .bool z.2.2.1, .int .i64 z.2.2.2], [])) (fun z => ((.exit 0), [.lst tVersion z.1, .lst tVersion z.2.1, .bool z.2.2.1, .int .i64 z.2.2.2], [])))
theorem wol (x : q8T) : exec G61 ⟨0, 27, vf4⟩ (vad Try.f121 0) (va3 ⟨0, 27, vf4⟩ [0, 1, 4, 5] []) (va0 (vay 27) [0, 1, 4, 5] (v97 x)) (v91 x) = vk8 x (Sum.elim (fun y => some ⟨.norm, v97 y, v91 y⟩) fun z => some ⟨(v4n z).1, (v4n z).2.1, (v4n z).2.2⟩) := by
  kernel_rfl
theorem wp7 : ∀ sp, (vf4 0) = some sp → vbc G61 ⟨0, 27, vf4⟩ sp (vad Try.f121 0) := by
  intro sp hsp vals st k r h
  cases hsp
  dsimp only at h
  rcases vae h with ⟨p, q, rfl, rfl, h⟩ | h
  · exact vaq wep v97 v91 v4n (fun z => by rcases z with z | z <;> (intro h; cases h)) wol Fuel (p.1, p.2.1, p.2.2.1, p.2.2.2.1) _ k r (fun z => by rcases z with z | z <;> rfl) h
  cases h
theorem w3f (a0 : (List vac)) (a1 : (List vac)) : var G61 vf4 Try.f121 [.lst tVersion a0, .lst tVersion a1] [] = vwi a0 a1 (fun (y : Bool) => some ⟨.ret, [.bool y], []⟩) := by rw [wl6]; kernel_rfl
theorem w2q : vao G61 ⟨0, 27, vf4⟩ (Try.f121.body.getD .skip) :=
  vah (ids := [0]) (by kernel_rfl) (by kernel_rfl) ⟨wp7, trivial⟩
theorem w1j : val Try.prog 121 wi8 := by
  refine told G61_ok follows Try.func121 (c := Try.f121.body.getD .skip) (by kernel_rfl) ?_
  intro args s k r hk
  unfold wi8 at hk
  rcases vag hk with ⟨p, q, rfl, rfl⟩ | hk
  · exact ⟨vf4, (ws4 p.1 p.2.1).map _, w3f p.1 p.2.1, w2q⟩
  cases hk
def G62 : Glob := G61.add 121 wi8
theorem G62_ok : GlobOk Try.prog G62 := G61_ok.add ⟨Try.f121, Try.func121, by kernel_rfl, by kernel_rfl⟩ w1j
def vtg : Nat → Option LoopSpec
  | _ => none
theorem w28 (a0 : ByteArray) (a1 : ByteArray) (a2 : ByteArray) (a3 : ByteArray) : var G62 vtg Try.f250 [.agg [.str a0, .str a1], .agg [.str a2, .str a3]] [] = vw1 (a0, a1) (a2, a3) (fun (y : Bool) => some ⟨.ret, [.bool y], []⟩) := by rw [wm7]; kernel_rfl
theorem wyb : vao G62 ⟨0, 15, vtg⟩ (Try.f250.body.getD .skip) :=
  vah (ids := []) (by kernel_rfl) (by kernel_rfl) trivial
theorem wyj : val Try.prog 250 wie := by
  refine told G62_ok follows Try.func250 (c := Try.f250.body.getD .skip) (by kernel_rfl) ?_
  intro args s k r hk
  unfold wie at hk
  rcases vag hk with ⟨p, q, rfl, rfl⟩ | hk
  · exact ⟨vtg, (wt3 (p.1.1, p.1.2.1) (p.2.1.1, p.2.1.2.1)).map _, w28 p.1.1 p.1.2.1 p.2.1.1 p.2.1.2.1, wyb⟩
  cases hk
def G63 : Glob := G62.add 250 wie
theorem G63_ok : GlobOk Try.prog G63 := G62_ok.add ⟨Try.f250, Try.func250, by kernel_rfl, by kernel_rfl⟩ wyj
def vfy : Nat → Option LoopSpec
  | 0 => some ⟨[0, 1, 4, 5], [], fun vals st k => vaj [.lst tRange, .lst tRange, .bool, .int .i64] [] vals st (fun p q => vai vko Fuel (p.1, p.2.1, p.2.2.1, p.2.2.2.1) (Sum.elim (fun z => k .ret [.lst tRange z.1, .lst tRange z.2.1, .bool z.2.2.1, .int .i64 z.2.2.2] []) (fun z => k (.exit 0) [.lst tRange z.1, .lst tRange z.2.1, .bool z.2.2.1, .int .i64 z.2.2.2] [])))
      (none)⟩
  | 2000006 => some ⟨[0, 2, 4, 6, 8, 10, 12, 14, 16, 18], [], fun _ _ _ => none⟩
  | _ => none
def v76 : q2T → List AV := (fun x => [.lst tRange x.1, .lst tRange x.2.1, .bool x.2.2.1, .int .i64 x.2.2.2])
def v9g : q2T → St := (fun x => [])
def v3c : (q2T ⊕ q2T) → Out × List AV × St := (Sum.elim (fun z => (.ret, [.lst tRange z.1, .lst tRange z.2.1, .bool z.2.2.1, .int .i64 z.2.2.2], [])) (fun z => ((.exit 0), [.lst tRange z.1, .lst tRange z.2.1, .bool z.2.2.1, .int .i64 z.2.2.2], [])))
theorem wqu (x : q2T) : exec G63 ⟨0, 27, vfy⟩ (vad Try.f184 0) (va3 ⟨0, 27, vfy⟩ [0, 1, 4, 5] []) (va0 (vay 27) [0, 1, 4, 5] (v76 x)) (v9g x) = vko x (Sum.elim (fun y => some ⟨.norm, v76 y, v9g y⟩) fun z => some ⟨(v3c z).1, (v3c z).2.1, (v3c z).2.2⟩) := by
  kernel_rfl
theorem wsl : ∀ sp, (vfy 0) = some sp → vbc G63 ⟨0, 27, vfy⟩ sp (vad Try.f184 0) := by
  intro sp hsp vals st k r h
  cases hsp
  dsimp only at h
  rcases vae h with ⟨p, q, rfl, rfl, h⟩ | h
  · exact vaq wfk v76 v9g v3c (fun z => by rcases z with z | z <;> (intro h; cases h)) wqu Fuel (p.1, p.2.1, p.2.2.1, p.2.2.2.1) _ k r (fun z => by rcases z with z | z <;> rfl) h
  cases h
theorem w0j (a0 : (List van)) (a1 : (List van)) : var G63 vfy Try.f184 [.lst tRange a0, .lst tRange a1] [] = vwu a0 a1 (fun (y : Bool) => some ⟨.ret, [.bool y], []⟩) := by rw [wiu]; kernel_rfl
theorem w1f : vao G63 ⟨0, 27, vfy⟩ (Try.f184.body.getD .skip) :=
  vah (ids := [0]) (by kernel_rfl) (by kernel_rfl) ⟨wsl, trivial⟩
theorem wz4 : val Try.prog 184 wic := by
  refine told G63_ok follows Try.func184 (c := Try.f184.body.getD .skip) (by kernel_rfl) ?_
  intro args s k r hk
  unfold wic at hk
  rcases vag hk with ⟨p, q, rfl, rfl⟩ | hk
  · exact ⟨vfy, (ws5 p.1 p.2.1).map _, w0j p.1 p.2.1, w1f⟩
  cases hk
def G64 : Glob := G63.add 184 wic
theorem G64_ok : GlobOk Try.prog G64 := G63_ok.add ⟨Try.f184, Try.func184, by kernel_rfl, by kernel_rfl⟩ wz4
def vs9 : Nat → Option LoopSpec
  | _ => none
theorem wyr (a0 : ByteArray) (a1 : ByteArray) (a2 : Bool) (a3 : ByteArray) (a4 : ByteArray) (a5 : Bool) : var G64 vs9 Try.f251 [.agg [.str a0, .str a1, .bool a2], .agg [.str a3, .str a4, .bool a5]] [] = vwb (a0, (a1, a2)) (a3, (a4, a5)) (fun (y : Bool) => some ⟨.ret, [.bool y], []⟩) := by rw [wiq]; kernel_rfl
theorem w3j : vao G64 ⟨0, 20, vs9⟩ (Try.f251.body.getD .skip) :=
  vah (ids := []) (by kernel_rfl) (by kernel_rfl) trivial
theorem wxc : val Try.prog 251 wnh := by
  refine told G64_ok follows Try.func251 (c := Try.f251.body.getD .skip) (by kernel_rfl) ?_
  intro args s k r hk
  unfold wnh at hk
  rcases vag hk with ⟨p, q, rfl, rfl⟩ | hk
  · exact ⟨vs9, (wtv (p.1.1, (p.1.2.1, p.1.2.2.1)) (p.2.1.1, (p.2.1.2.1, p.2.1.2.2.1))).map _, wyr p.1.1 p.1.2.1 p.1.2.2.1 p.2.1.1 p.2.1.2.1 p.2.1.2.2.1, w3j⟩
  cases hk
def G65 : Glob := G64.add 251 wnh
theorem G65_ok : GlobOk Try.prog G65 := G64_ok.add ⟨Try.f251, Try.func251, by kernel_rfl, by kernel_rfl⟩ wxc
def vf1 : Nat → Option LoopSpec
  | 0 => some ⟨[0, 1, 4, 5], [], fun vals st k => vaj [.lst tWrite, .lst tWrite, .bool, .int .i64] [] vals st (fun p q => vai vl2 Fuel (p.1, p.2.1, p.2.2.1, p.2.2.2.1) (Sum.elim (fun z => k .ret [.lst tWrite z.1, .lst tWrite z.2.1, .bool z.2.2.1, .int .i64 z.2.2.2] []) (fun z => k (.exit 0) [.lst tWrite z.1, .lst tWrite z.2.1, .bool z.2.2.1, .int .i64 z.2.2.2] [])))
      (none)⟩
  | 2000006 => some ⟨[0, 2, 4, 6, 8, 10, 12, 14, 16, 18], [], fun _ _ _ => none⟩
  | _ => none
def v9n : q12T → List AV := (fun x => [.lst tWrite x.1, .lst tWrite x.2.1, .bool x.2.2.1, .int .i64 x.2.2.2])
def v75 : q12T → St := (fun x => [])
def v2q : (q12T ⊕ q12T) → Out × List AV × St := (Sum.elim (fun z => (.ret, [.lst tWrite z.1, .lst tWrite z.2.1, .bool z.2.2.1, .int .i64 z.2.2.2], [])) (fun z => ((.exit 0), [.lst tWrite z.1, .lst tWrite z.2.1, .bool z.2.2.1, .int .i64 z.2.2.2], [])))
theorem wo1 (x : q12T) : exec G65 ⟨0, 27, vf1⟩ (vad Try.f185 0) (va3 ⟨0, 27, vf1⟩ [0, 1, 4, 5] []) (va0 (vay 27) [0, 1, 4, 5] (v9n x)) (v75 x) = vl2 x (Sum.elim (fun y => some ⟨.norm, v9n y, v75 y⟩) fun z => some ⟨(v2q z).1, (v2q z).2.1, (v2q z).2.2⟩) := by
  kernel_rfl
theorem wr5 : ∀ sp, (vf1 0) = some sp → vbc G65 ⟨0, 27, vf1⟩ sp (vad Try.f185 0) := by
  intro sp hsp vals st k r h
  cases hsp
  dsimp only at h
  rcases vae h with ⟨p, q, rfl, rfl, h⟩ | h
  · exact vaq wby v9n v75 v2q (fun z => by rcases z with z | z <;> (intro h; cases h)) wo1 Fuel (p.1, p.2.1, p.2.2.1, p.2.2.2.1) _ k r (fun z => by rcases z with z | z <;> rfl) h
  cases h
theorem w3o (a0 : (List vam)) (a1 : (List vam)) : var G65 vf1 Try.f185 [.lst tWrite a0, .lst tWrite a1] [] = vv9 a0 a1 (fun (y : Bool) => some ⟨.ret, [.bool y], []⟩) := by rw [wlc]; kernel_rfl
theorem w2v : vao G65 ⟨0, 27, vf1⟩ (Try.f185.body.getD .skip) :=
  vah (ids := [0]) (by kernel_rfl) (by kernel_rfl) ⟨wr5, trivial⟩
theorem wzd : val Try.prog 185 wky := by
  refine told G65_ok follows Try.func185 (c := Try.f185.body.getD .skip) (by kernel_rfl) ?_
  intro args s k r hk
  unfold wky at hk
  rcases vag hk with ⟨p, q, rfl, rfl⟩ | hk
  · exact ⟨vf1, (wt0 p.1 p.2.1).map _, w3o p.1 p.2.1, w2v⟩
  cases hk
def G66 : Glob := G65.add 185 wky
theorem G66_ok : GlobOk Try.prog G66 := G65_ok.add ⟨Try.f185, Try.func185, by kernel_rfl, by kernel_rfl⟩ wzd
def vs0 : Nat → Option LoopSpec
  | _ => none
theorem wwn (a0 : Int) (a1 : Int) (a2 : Int) (a3 : Int) (a4 : (List van)) (a5 : (List vam)) (a6 : Bool) (a7 : ByteArray) (a8 : Int) (a9 : Int) (a10 : Int) (a11 : Int) (a12 : (List van)) (a13 : (List vam)) (a14 : Bool) (a15 : ByteArray) : var G66 vs0 Try.f104 [.agg [.int .i64 a0, .int .i64 a1, .int .i64 a2, .int .i64 a3, .lst tRange a4, .lst tWrite a5, .bool a6, .str a7], .agg [.int .i64 a8, .int .i64 a9, .int .i64 a10, .int .i64 a11, .lst tRange a12, .lst tWrite a13, .bool a14, .str a15]] [] = vux (a0, (a1, (a2, (a3, (a4, (a5, (a6, a7))))))) (a8, (a9, (a10, (a11, (a12, (a13, (a14, a15))))))) (fun (y : Bool) => some ⟨.ret, [.bool y], []⟩) := by rw [wi0]; kernel_rfl
theorem w2e : vao G66 ⟨0, 47, vs0⟩ (Try.f104.body.getD .skip) :=
  vah (ids := []) (by kernel_rfl) (by kernel_rfl) trivial
theorem w1l : val Try.prog 104 wj7 := by
  refine told G66_ok follows Try.func104 (c := Try.f104.body.getD .skip) (by kernel_rfl) ?_
  intro args s k r hk
  unfold wj7 at hk
  rcases vag hk with ⟨p, q, rfl, rfl⟩ | hk
  · exact ⟨vs0, (wum (p.1.1, (p.1.2.1, (p.1.2.2.1, (p.1.2.2.2.1, (p.1.2.2.2.2.1, (p.1.2.2.2.2.2.1, (p.1.2.2.2.2.2.2.1, p.1.2.2.2.2.2.2.2.1))))))) (p.2.1.1, (p.2.1.2.1, (p.2.1.2.2.1, (p.2.1.2.2.2.1, (p.2.1.2.2.2.2.1, (p.2.1.2.2.2.2.2.1, (p.2.1.2.2.2.2.2.2.1, p.2.1.2.2.2.2.2.2.2.1)))))))).map _, wwn p.1.1 p.1.2.1 p.1.2.2.1 p.1.2.2.2.1 p.1.2.2.2.2.1 p.1.2.2.2.2.2.1 p.1.2.2.2.2.2.2.1 p.1.2.2.2.2.2.2.2.1 p.2.1.1 p.2.1.2.1 p.2.1.2.2.1 p.2.1.2.2.2.1 p.2.1.2.2.2.2.1 p.2.1.2.2.2.2.2.1 p.2.1.2.2.2.2.2.2.1 p.2.1.2.2.2.2.2.2.2.1, w2e⟩
  cases hk
def G67 : Glob := G66.add 104 wj7
theorem G67_ok : GlobOk Try.prog G67 := G66_ok.add ⟨Try.f104, Try.func104, by kernel_rfl, by kernel_rfl⟩ w1l
def vf5 : Nat → Option LoopSpec
  | 0 => some ⟨[0, 1, 4, 5], [], fun vals st k => vaj [.lst tTxn, .lst tTxn, .bool, .int .i64] [] vals st (fun p q => vai vks Fuel (p.1, p.2.1, p.2.2.1, p.2.2.2.1) (Sum.elim (fun z => k .ret [.lst tTxn z.1, .lst tTxn z.2.1, .bool z.2.2.1, .int .i64 z.2.2.2] []) (fun z => k (.exit 0) [.lst tTxn z.1, .lst tTxn z.2.1, .bool z.2.2.1, .int .i64 z.2.2.2] [])))
      (none)⟩
  | 2000006 => some ⟨[0, 2, 4, 6, 8, 10, 12, 14, 16, 18], [], fun _ _ _ => none⟩
  | _ => none
def wal : q4T → List AV := (fun x => [.lst tTxn x.1, .lst tTxn x.2.1, .bool x.2.2.1, .int .i64 x.2.2.2])
def v9x : q4T → St := (fun x => [])
def v3t : (q4T ⊕ q4T) → Out × List AV × St := (Sum.elim (fun z => (.ret, [.lst tTxn z.1, .lst tTxn z.2.1, .bool z.2.2.1, .int .i64 z.2.2.2], [])) (fun z => ((.exit 0), [.lst tTxn z.1, .lst tTxn z.2.1, .bool z.2.2.1, .int .i64 z.2.2.2], [])))
theorem wpo (x : q4T) : exec G67 ⟨0, 27, vf5⟩ (vad Try.f52 0) (va3 ⟨0, 27, vf5⟩ [0, 1, 4, 5] []) (va0 (vay 27) [0, 1, 4, 5] (wal x)) (v9x x) = vks x (Sum.elim (fun y => some ⟨.norm, wal y, v9x y⟩) fun z => some ⟨(v3t z).1, (v3t z).2.1, (v3t z).2.2⟩) := by
  kernel_rfl
theorem wp6 : ∀ sp, (vf5 0) = some sp → vbc G67 ⟨0, 27, vf5⟩ sp (vad Try.f52 0) := by
  intro sp hsp vals st k r h
  cases hsp
  dsimp only at h
  rcases vae h with ⟨p, q, rfl, rfl, h⟩ | h
  · exact vaq wdo wal v9x v3t (fun z => by rcases z with z | z <;> (intro h; cases h)) wpo Fuel (p.1, p.2.1, p.2.2.1, p.2.2.2.1) _ k r (fun z => by rcases z with z | z <;> rfl) h
  cases h
theorem wzh (a0 : (List dTxn)) (a1 : (List dTxn)) : var G67 vf5 Try.f52 [.lst tTxn a0, .lst tTxn a1] [] = vut a0 a1 (fun (y : Bool) => some ⟨.ret, [.bool y], []⟩) := by rw [wiv]; kernel_rfl
theorem wxn : vao G67 ⟨0, 27, vf5⟩ (Try.f52.body.getD .skip) :=
  vah (ids := [0]) (by kernel_rfl) (by kernel_rfl) ⟨wp6, trivial⟩
theorem wzn : val Try.prog 52 wnq := by
  refine told G67_ok follows Try.func52 (c := Try.f52.body.getD .skip) (by kernel_rfl) ?_
  intro args s k r hk
  unfold wnq at hk
  rcases vag hk with ⟨p, q, rfl, rfl⟩ | hk
  · exact ⟨vf5, (wly p.1 p.2.1).map _, wzh p.1 p.2.1, wxn⟩
  cases hk
def G68 : Glob := G67.add 52 wnq
theorem G68_ok : GlobOk Try.prog G68 := G67_ok.add ⟨Try.f52, Try.func52, by kernel_rfl, by kernel_rfl⟩ wzn
def vtd : Nat → Option LoopSpec
  | _ => none
theorem wza (a0 : (List vac)) (a1 : (List dTxn)) (a2 : (List dTxn)) (a3 : Int) (a4 : Int) (a5 : (List vac)) (a6 : (List dTxn)) (a7 : (List dTxn)) (a8 : Int) (a9 : Int) : var G68 vtd Try.f51 [.agg [.lst tVersion a0, .lst tTxn a1, .lst tTxn a2, .int .i64 a3, .int .i64 a4], .agg [.lst tVersion a5, .lst tTxn a6, .lst tTxn a7, .int .i64 a8, .int .i64 a9]] [] = vl5 (a0, (a1, (a2, (a3, a4)))) (a5, (a6, (a7, (a8, a9)))) (fun (y : Bool) => some ⟨.ret, [.bool y], []⟩) := by rw [whl]; kernel_rfl
theorem wyl : vao G68 ⟨0, 33, vtd⟩ (Try.f51.body.getD .skip) :=
  vah (ids := []) (by kernel_rfl) (by kernel_rfl) trivial
theorem wyg : val Try.prog 51 wlu := by
  refine told G68_ok follows Try.func51 (c := Try.f51.body.getD .skip) (by kernel_rfl) ?_
  intro args s k r hk
  unfold wlu at hk
  rcases vag hk with ⟨p, q, rfl, rfl⟩ | hk
  · exact ⟨vtd, (v52 (p.1.1, (p.1.2.1, (p.1.2.2.1, (p.1.2.2.2.1, p.1.2.2.2.2.1)))) (p.2.1.1, (p.2.1.2.1, (p.2.1.2.2.1, (p.2.1.2.2.2.1, p.2.1.2.2.2.2.1))))).map _, wza p.1.1 p.1.2.1 p.1.2.2.1 p.1.2.2.2.1 p.1.2.2.2.2.1 p.2.1.1 p.2.1.2.1 p.2.1.2.2.1 p.2.1.2.2.2.1 p.2.1.2.2.2.2.1, wyl⟩
  cases hk
def G69 : Glob := G68.add 51 wlu
theorem G69_ok : GlobOk Try.prog G69 := G68_ok.add ⟨Try.f51, Try.func51, by kernel_rfl, by kernel_rfl⟩ wyg
def vge : Nat → Option LoopSpec
  | 0 => some ⟨[0, 3], [], fun vals st k => vaj [.int .i64, .str] [] vals st (fun p q => vai vmo Fuel (p.1, p.2.1) (fun z => k (.exit 0) [.int .i64 z.1, .str z.2] []))
      (none)⟩
  | _ => none
def v8c : (Int × ByteArray) → List AV := (fun x => [.int .i64 x.1, .str x.2])
def v79 : (Int × ByteArray) → St := (fun x => [])
def v35 : (Int × ByteArray) → Out × List AV × St := (fun z => ((.exit 0), [.int .i64 z.1, .str z.2], []))
theorem wn1 (x : (Int × ByteArray)) : exec G69 ⟨0, 20, vge⟩ (vad Try.f76 0) (va3 ⟨0, 20, vge⟩ [0, 3] []) (va0 (vay 20) [0, 3] (v8c x)) (v79 x) = vmo x (Sum.elim (fun y => some ⟨.norm, v8c y, v79 y⟩) fun z => some ⟨(v35 z).1, (v35 z).2.1, (v35 z).2.2⟩) := by
  kernel_rfl
theorem wq3 : ∀ sp, (vge 0) = some sp → vbc G69 ⟨0, 20, vge⟩ sp (vad Try.f76 0) := by
  intro sp hsp vals st k r h
  cases hsp
  dsimp only at h
  rcases vae h with ⟨p, q, rfl, rfl, h⟩ | h
  · exact vaq wdw v8c v79 v35 (fun z => by (intro h; cases h)) wn1 Fuel (p.1, p.2.1) _ k r (fun z => rfl) h
  cases h
theorem w1k (a0 : Int) : var G69 vge Try.f76 [.int .i64 a0] [] = vcp a0 (fun (y : ByteArray) => some ⟨.ret, [.str y], []⟩) := by rw [wi1]; kernel_rfl
theorem wyf : vao G69 ⟨0, 20, vge⟩ (Try.f76.body.getD .skip) :=
  vah (ids := [0]) (by kernel_rfl) (by kernel_rfl) ⟨wq3, trivial⟩
theorem wx3 : val Try.prog 76 whj := by
  refine told G69_ok follows Try.func76 (c := Try.f76.body.getD .skip) (by kernel_rfl) ?_
  intro args s k r hk
  unfold whj at hk
  rcases vag hk with ⟨p, q, rfl, rfl⟩ | hk
  · exact ⟨vge, (vix p.1).map _, w1k p.1, wyf⟩
  cases hk
def G70 : Glob := G69.add 76 whj
theorem G70_ok : GlobOk Try.prog G70 := G69_ok.add ⟨Try.f76, Try.func76, by kernel_rfl, by kernel_rfl⟩ wx3
def vf3 : Nat → Option LoopSpec
  | 0 => some ⟨[0, 1, 5], [], fun vals st k => vaj [.own 0, .int .i64, .int .i64] [.arr tVersion] vals st (fun p q => vai vlu Fuel (p.2.1, p.2.2.1, q.1) (fun z => k (.exit 0) [.own 0, .int .i64 z.1, .int .i64 z.2.1] [.arr tVersion z.2.2]))
      (none)⟩
  | _ => none
def v9r : (Int × Int × (List vac)) → List AV := (fun x => [.own 0, .int .i64 x.1, .int .i64 x.2.1])
def war : (Int × Int × (List vac)) → St := (fun x => [.arr tVersion x.2.2])
def v4c : (Int × Int × (List vac)) → Out × List AV × St := (fun z => ((.exit 0), [.own 0, .int .i64 z.1, .int .i64 z.2.1], [.arr tVersion z.2.2]))
theorem wpn (x : (Int × Int × (List vac))) : exec G70 ⟨1, 45, vf3⟩ (vad Try.f122 0) (va3 ⟨1, 45, vf3⟩ [0, 1, 5] []) (va0 (vay 45) [0, 1, 5] (v9r x)) (war x) = vlu x (Sum.elim (fun y => some ⟨.norm, v9r y, war y⟩) fun z => some ⟨(v4c z).1, (v4c z).2.1, (v4c z).2.2⟩) := by
  kernel_rfl
theorem wri : ∀ sp, (vf3 0) = some sp → vbc G70 ⟨1, 45, vf3⟩ sp (vad Try.f122 0) := by
  intro sp hsp vals st k r h
  cases hsp
  dsimp only at h
  rcases vae h with ⟨p, q, rfl, rfl, h⟩ | h
  · exact vaq wc4 v9r war v4c (fun z => by (intro h; cases h)) wpn Fuel (p.2.1, p.2.2.1, q.1) _ k r (fun z => rfl) h
  cases h
theorem ww2 (a0 : Int) (a1 : (List vac)) : var G70 vf3 Try.f122 [.own 0, .int .i64 a0] [.arr tVersion a1] = v1o a0 a1 (fun (y : (Int × (List vac))) => some ⟨.ret, [.int .i64 y.1], [.arr tVersion y.2]⟩) := by rw [wk1]; kernel_rfl
theorem ww8 : vao G70 ⟨1, 45, vf3⟩ (Try.f122.body.getD .skip) :=
  vah (ids := [0]) (by kernel_rfl) (by kernel_rfl) ⟨wri, trivial⟩
theorem vq6 : val Try.prog 122 ve9 := by
  refine told G70_ok follows Try.func122 (c := Try.f122.body.getD .skip) (by kernel_rfl) ?_
  intro args s k r hk
  unfold ve9 at hk
  rcases vag hk with ⟨p, q, rfl, rfl⟩ | hk
  · exact ⟨vf3, (wsu p.2.1 q.1).map _, ww2 p.2.1 q.1, ww8⟩
  cases hk
def G71 : Glob := G70.add 122 ve9
theorem G71_ok : GlobOk Try.prog G71 := G70_ok.add ⟨Try.f122, Try.func122, by kernel_rfl, by kernel_rfl⟩ vq6
def vgl : Nat → Option LoopSpec
  | 0 => some ⟨[0, 1, 5], [], fun vals st k => vaj [.own 0, .int .i64, .int .i64] [.arr tRange] vals st (fun p q => vai vmf Fuel (p.2.1, p.2.2.1, q.1) (fun z => k (.exit 0) [.own 0, .int .i64 z.1, .int .i64 z.2.1] [.arr tRange z.2.2]))
      (none)⟩
  | _ => none
def v8x : (Int × Int × (List van)) → List AV := (fun x => [.own 0, .int .i64 x.1, .int .i64 x.2.1])
def wbe : (Int × Int × (List van)) → St := (fun x => [.arr tRange x.2.2])
def v32 : (Int × Int × (List van)) → Out × List AV × St := (fun z => ((.exit 0), [.own 0, .int .i64 z.1, .int .i64 z.2.1], [.arr tRange z.2.2]))
theorem wqa (x : (Int × Int × (List van))) : exec G71 ⟨1, 29, vgl⟩ (vad Try.f123 0) (va3 ⟨1, 29, vgl⟩ [0, 1, 5] []) (va0 (vay 29) [0, 1, 5] (v8x x)) (wbe x) = vmf x (Sum.elim (fun y => some ⟨.norm, v8x y, wbe y⟩) fun z => some ⟨(v32 z).1, (v32 z).2.1, (v32 z).2.2⟩) := by
  kernel_rfl
theorem wn8 : ∀ sp, (vgl 0) = some sp → vbc G71 ⟨1, 29, vgl⟩ sp (vad Try.f123 0) := by
  intro sp hsp vals st k r h
  cases hsp
  dsimp only at h
  rcases vae h with ⟨p, q, rfl, rfl, h⟩ | h
  · exact vaq wfz v8x wbe v32 (fun z => by (intro h; cases h)) wqa Fuel (p.2.1, p.2.2.1, q.1) _ k r (fun z => rfl) h
  cases h
theorem w0u (a0 : Int) (a1 : (List van)) : var G71 vgl Try.f123 [.own 0, .int .i64 a0] [.arr tRange a1] = v1x a0 a1 (fun (y : (Int × (List van))) => some ⟨.ret, [.int .i64 y.1], [.arr tRange y.2]⟩) := by rw [wmw]; kernel_rfl
theorem wxi : vao G71 ⟨1, 29, vgl⟩ (Try.f123.body.getD .skip) :=
  vah (ids := [0]) (by kernel_rfl) (by kernel_rfl) ⟨wn8, trivial⟩
theorem vs5 : val Try.prog 123 vgb := by
  refine told G71_ok follows Try.func123 (c := Try.f123.body.getD .skip) (by kernel_rfl) ?_
  intro args s k r hk
  unfold vgb at hk
  rcases vag hk with ⟨p, q, rfl, rfl⟩ | hk
  · exact ⟨vgl, (wud p.2.1 q.1).map _, w0u p.2.1 q.1, wxi⟩
  cases hk
def G72 : Glob := G71.add 123 vgb
theorem G72_ok : GlobOk Try.prog G72 := G71_ok.add ⟨Try.f123, Try.func123, by kernel_rfl, by kernel_rfl⟩ vs5
def vf7 : Nat → Option LoopSpec
  | 0 => some ⟨[0, 1, 5], [], fun vals st k => vaj [.own 0, .int .i64, .int .i64] [.arr tWrite] vals st (fun p q => vai vm8 Fuel (p.2.1, p.2.2.1, q.1) (fun z => k (.exit 0) [.own 0, .int .i64 z.1, .int .i64 z.2.1] [.arr tWrite z.2.2]))
      (none)⟩
  | _ => none
def wa1 : (Int × Int × (List vam)) → List AV := (fun x => [.own 0, .int .i64 x.1, .int .i64 x.2.1])
def wbb : (Int × Int × (List vam)) → St := (fun x => [.arr tWrite x.2.2])
def v49 : (Int × Int × (List vam)) → Out × List AV × St := (fun z => ((.exit 0), [.own 0, .int .i64 z.1, .int .i64 z.2.1], [.arr tWrite z.2.2]))
theorem wn3 (x : (Int × Int × (List vam))) : exec G72 ⟨1, 38, vf7⟩ (vad Try.f124 0) (va3 ⟨1, 38, vf7⟩ [0, 1, 5] []) (va0 (vay 38) [0, 1, 5] (wa1 x)) (wbb x) = vm8 x (Sum.elim (fun y => some ⟨.norm, wa1 y, wbb y⟩) fun z => some ⟨(v49 z).1, (v49 z).2.1, (v49 z).2.2⟩) := by
  kernel_rfl
theorem wrq : ∀ sp, (vf7 0) = some sp → vbc G72 ⟨1, 38, vf7⟩ sp (vad Try.f124 0) := by
  intro sp hsp vals st k r h
  cases hsp
  dsimp only at h
  rcases vae h with ⟨p, q, rfl, rfl, h⟩ | h
  · exact vaq wf4 wa1 wbb v49 (fun z => by (intro h; cases h)) wn3 Fuel (p.2.1, p.2.2.1, q.1) _ k r (fun z => rfl) h
  cases h
theorem w09 (a0 : Int) (a1 : (List vam)) : var G72 vf7 Try.f124 [.own 0, .int .i64 a0] [.arr tWrite a1] = v14 a0 a1 (fun (y : (Int × (List vam))) => some ⟨.ret, [.int .i64 y.1], [.arr tWrite y.2]⟩) := by rw [wlh]; kernel_rfl
theorem wxk : vao G72 ⟨1, 38, vf7⟩ (Try.f124.body.getD .skip) :=
  vah (ids := [0]) (by kernel_rfl) (by kernel_rfl) ⟨wrq, trivial⟩
theorem vuf : val Try.prog 124 vf0 := by
  refine told G72_ok follows Try.func124 (c := Try.f124.body.getD .skip) (by kernel_rfl) ?_
  intro args s k r hk
  unfold vf0 at hk
  rcases vag hk with ⟨p, q, rfl, rfl⟩ | hk
  · exact ⟨vf7, (wsz p.2.1 q.1).map _, w09 p.2.1 q.1, wxk⟩
  cases hk
def G73 : Glob := G72.add 124 vf0
theorem G73_ok : GlobOk Try.prog G73 := G72_ok.add ⟨Try.f124, Try.func124, by kernel_rfl, by kernel_rfl⟩ vuf
def vat : Nat → Option LoopSpec
  | 5000003 => some ⟨[0, 1, 5], [], fun vals st k => vaj [.own 0, .int .i64, .int .i64] [.dep tTxn 0] vals st (fun p q => vet (p.2.1, p.2.2.1, q.1) (fun z => k .norm [.own 0, .int .i64 z.1, .int .i64 z.2.1] [.dep tTxn z.2.2 0]))
      (none)⟩
  | 5000017 => some ⟨[0, 1, 5], [], fun vals st k => vaj [.own 0, .int .i64, .int .i64] [.dep tTxn 0] vals st (fun p q => vef (p.2.1, p.2.2.1, q.1) (fun z => k .norm [.own 0, .int .i64 z.1, .int .i64 z.2.1] [.dep tTxn z.2.2 0]))
      (none)⟩
  | 5000015 => some ⟨[0, 1, 5], [], fun vals st k => vaj [.own 0, .int .i64, .int .i64] [.dep tTxn 0] vals st (fun p q => ves (p.2.1, p.2.2.1, q.1) (fun z => k .norm [.own 0, .int .i64 z.1, .int .i64 z.2.1] [.dep tTxn z.2.2 0]))
      (none)⟩
  | 5000011 => some ⟨[0, 1, 5], [], fun vals st k => vaj [.own 0, .int .i64, .int .i64] [.dep tTxn 0] vals st (fun p q => ver (p.2.1, p.2.2.1, q.1) (fun z => k .norm [.own 0, .int .i64 z.1, .int .i64 z.2.1] [.dep tTxn z.2.2 0]))
      (none)⟩
  | 5000009 => some ⟨[0, 1, 5], [], fun vals st k => vaj [.own 0, .int .i64, .int .i64] [.dep tTxn 0] vals st (fun p q => vea (p.2.1, p.2.2.1, q.1) (fun z => k .norm [.own 0, .int .i64 z.1, .int .i64 z.2.1] [.dep tTxn z.2.2 0]))
      (none)⟩
  | 5000007 => some ⟨[0, 1, 5], [], fun vals st k => vaj [.own 0, .int .i64, .int .i64] [.dep tTxn 0] vals st (fun p q => ven (p.2.1, p.2.2.1, q.1) (fun z => k .norm [.own 0, .int .i64 z.1, .int .i64 z.2.1] [.dep tTxn z.2.2 0]))
      (none)⟩
  | 5000005 => some ⟨[0, 1, 5], [], fun vals st k => vaj [.own 0, .int .i64, .int .i64] [.dep tTxn 0] vals st (fun p q => vem (p.2.1, p.2.2.1, q.1) (fun z => k .norm [.own 0, .int .i64 z.1, .int .i64 z.2.1] [.dep tTxn z.2.2 0]))
      (none)⟩
  | 0 => some ⟨[0, 1, 5], [], fun vals st k => vaj [.own 0, .int .i64, .int .i64] [.dep tTxn 0] vals st (fun p q => vai vll Fuel (p.2.1, p.2.2.1, q.1) (fun z => k (.exit 0) [.own 0, .int .i64 z.1, .int .i64 z.2.1] [.dep tTxn z.2.2 0]))
      (none)⟩
  | _ => none
def vpx : (Int × Int × (List dTxn)) → List AV := (fun x => [.own 0, .int .i64 x.1, .int .i64 x.2.1])
def voi : (Int × Int × (List dTxn)) → St := (fun x => [.dep tTxn x.2.2 0])
def vhc : (Int × Int × (List dTxn)) → Out × List AV × St := (fun z => (.norm, [.own 0, .int .i64 z.1, .int .i64 z.2.1], [.dep tTxn z.2.2 0]))
theorem vz6 (x : (Int × Int × (List dTxn))) : exec G73 ⟨1, 72, vat⟩ (vad Try.f54 5000003) (va3 ⟨1, 72, vat⟩ [0, 1, 5] []) (va0 (vay 72) [0, 1, 5] (vpx x)) (voi x) = vet x (fun z => some ⟨(vhc z).1, (vhc z).2.1, (vhc z).2.2⟩) := by
  kernel_rfl
theorem vzr : ∀ sp, (vat 5000003) = some sp → vep G73 ⟨1, 72, vat⟩ sp (vad Try.f54 5000003) := by
  intro sp hsp vals st k r h
  cases hsp
  dsimp only at h
  rcases vae h with ⟨p, q, rfl, rfl, h⟩ | h
  · exact va5 vp8 vpx voi vhc vz6 (p.2.1, p.2.2.1, q.1) _ k r (fun z => rfl) h
  cases h
def vqf : (Int × Int × (List dTxn)) → List AV := (fun x => [.own 0, .int .i64 x.1, .int .i64 x.2.1])
def vpi : (Int × Int × (List dTxn)) → St := (fun x => [.dep tTxn x.2.2 0])
def vhj : (Int × Int × (List dTxn)) → Out × List AV × St := (fun z => (.norm, [.own 0, .int .i64 z.1, .int .i64 z.2.1], [.dep tTxn z.2.2 0]))
theorem vyx (x : (Int × Int × (List dTxn))) : exec G73 ⟨1, 72, vat⟩ (vad Try.f54 5000017) (va3 ⟨1, 72, vat⟩ [0, 1, 5] []) (va0 (vay 72) [0, 1, 5] (vqf x)) (vpi x) = vef x (fun z => some ⟨(vhj z).1, (vhj z).2.1, (vhj z).2.2⟩) := by
  kernel_rfl
theorem vzp : ∀ sp, (vat 5000017) = some sp → vep G73 ⟨1, 72, vat⟩ sp (vad Try.f54 5000017) := by
  intro sp hsp vals st k r h
  cases hsp
  dsimp only at h
  rcases vae h with ⟨p, q, rfl, rfl, h⟩ | h
  · exact va5 vqk vqf vpi vhj vyx (p.2.1, p.2.2.1, q.1) _ k r (fun z => rfl) h
  cases h
def vo9 : (Int × Int × (List dTxn)) → List AV := (fun x => [.own 0, .int .i64 x.1, .int .i64 x.2.1])
def vpa : (Int × Int × (List dTxn)) → St := (fun x => [.dep tTxn x.2.2 0])
def vho : (Int × Int × (List dTxn)) → Out × List AV × St := (fun z => (.norm, [.own 0, .int .i64 z.1, .int .i64 z.2.1], [.dep tTxn z.2.2 0]))
theorem vz7 (x : (Int × Int × (List dTxn))) : exec G73 ⟨1, 72, vat⟩ (vad Try.f54 5000015) (va3 ⟨1, 72, vat⟩ [0, 1, 5] []) (va0 (vay 72) [0, 1, 5] (vo9 x)) (vpa x) = ves x (fun z => some ⟨(vho z).1, (vho z).2.1, (vho z).2.2⟩) := by
  kernel_rfl
theorem v0g : ∀ sp, (vat 5000015) = some sp → vep G73 ⟨1, 72, vat⟩ sp (vad Try.f54 5000015) := by
  intro sp hsp vals st k r h
  cases hsp
  dsimp only at h
  rcases vae h with ⟨p, q, rfl, rfl, h⟩ | h
  · exact va5 vo8 vo9 vpa vho vz7 (p.2.1, p.2.2.1, q.1) _ k r (fun z => rfl) h
  cases h
def vo7 : (Int × Int × (List dTxn)) → List AV := (fun x => [.own 0, .int .i64 x.1, .int .i64 x.2.1])
def vok : (Int × Int × (List dTxn)) → St := (fun x => [.dep tTxn x.2.2 0])
def vgx : (Int × Int × (List dTxn)) → Out × List AV × St := (fun z => (.norm, [.own 0, .int .i64 z.1, .int .i64 z.2.1], [.dep tTxn z.2.2 0]))
theorem vym (x : (Int × Int × (List dTxn))) : exec G73 ⟨1, 72, vat⟩ (vad Try.f54 5000011) (va3 ⟨1, 72, vat⟩ [0, 1, 5] []) (va0 (vay 72) [0, 1, 5] (vo7 x)) (vok x) = ver x (fun z => some ⟨(vgx z).1, (vgx z).2.1, (vgx z).2.2⟩) := by
  kernel_rfl
theorem vy0 : ∀ sp, (vat 5000011) = some sp → vep G73 ⟨1, 72, vat⟩ sp (vad Try.f54 5000011) := by
  intro sp hsp vals st k r h
  cases hsp
  dsimp only at h
  rcases vae h with ⟨p, q, rfl, rfl, h⟩ | h
  · exact va5 vp0 vo7 vok vgx vym (p.2.1, p.2.2.1, q.1) _ k r (fun z => rfl) h
  cases h
def vqt : (Int × Int × (List dTxn)) → List AV := (fun x => [.own 0, .int .i64 x.1, .int .i64 x.2.1])
def vpy : (Int × Int × (List dTxn)) → St := (fun x => [.dep tTxn x.2.2 0])
def vgz : (Int × Int × (List dTxn)) → Out × List AV × St := (fun z => (.norm, [.own 0, .int .i64 z.1, .int .i64 z.2.1], [.dep tTxn z.2.2 0]))
theorem v0b (x : (Int × Int × (List dTxn))) : exec G73 ⟨1, 72, vat⟩ (vad Try.f54 5000009) (va3 ⟨1, 72, vat⟩ [0, 1, 5] []) (va0 (vay 72) [0, 1, 5] (vqt x)) (vpy x) = vea x (fun z => some ⟨(vgz z).1, (vgz z).2.1, (vgz z).2.2⟩) := by
  kernel_rfl
theorem vza : ∀ sp, (vat 5000009) = some sp → vep G73 ⟨1, 72, vat⟩ sp (vad Try.f54 5000009) := by
  intro sp hsp vals st k r h
  cases hsp
  dsimp only at h
  rcases vae h with ⟨p, q, rfl, rfl, h⟩ | h
  · exact va5 vp5 vqt vpy vgz v0b (p.2.1, p.2.2.1, q.1) _ k r (fun z => rfl) h
  cases h
def vou : (Int × Int × (List dTxn)) → List AV := (fun x => [.own 0, .int .i64 x.1, .int .i64 x.2.1])
def vo6 : (Int × Int × (List dTxn)) → St := (fun x => [.dep tTxn x.2.2 0])
def vg6 : (Int × Int × (List dTxn)) → Out × List AV × St := (fun z => (.norm, [.own 0, .int .i64 z.1, .int .i64 z.2.1], [.dep tTxn z.2.2 0]))
theorem vyq (x : (Int × Int × (List dTxn))) : exec G73 ⟨1, 72, vat⟩ (vad Try.f54 5000007) (va3 ⟨1, 72, vat⟩ [0, 1, 5] []) (va0 (vay 72) [0, 1, 5] (vou x)) (vo6 x) = ven x (fun z => some ⟨(vg6 z).1, (vg6 z).2.1, (vg6 z).2.2⟩) := by
  kernel_rfl
theorem vy9 : ∀ sp, (vat 5000007) = some sp → vep G73 ⟨1, 72, vat⟩ sp (vad Try.f54 5000007) := by
  intro sp hsp vals st k r h
  cases hsp
  dsimp only at h
  rcases vae h with ⟨p, q, rfl, rfl, h⟩ | h
  · exact va5 vp6 vou vo6 vg6 vyq (p.2.1, p.2.2.1, q.1) _ k r (fun z => rfl) h
  cases h
def voj : (Int × Int × (List dTxn)) → List AV := (fun x => [.own 0, .int .i64 x.1, .int .i64 x.2.1])
def vph : (Int × Int × (List dTxn)) → St := (fun x => [.dep tTxn x.2.2 0])
def vg2 : (Int × Int × (List dTxn)) → Out × List AV × St := (fun z => (.norm, [.own 0, .int .i64 z.1, .int .i64 z.2.1], [.dep tTxn z.2.2 0]))
theorem vy4 (x : (Int × Int × (List dTxn))) : exec G73 ⟨1, 72, vat⟩ (vad Try.f54 5000005) (va3 ⟨1, 72, vat⟩ [0, 1, 5] []) (va0 (vay 72) [0, 1, 5] (voj x)) (vph x) = vem x (fun z => some ⟨(vg2 z).1, (vg2 z).2.1, (vg2 z).2.2⟩) := by
  kernel_rfl
theorem vyw : ∀ sp, (vat 5000005) = some sp → vep G73 ⟨1, 72, vat⟩ sp (vad Try.f54 5000005) := by
  intro sp hsp vals st k r h
  cases hsp
  dsimp only at h
  rcases vae h with ⟨p, q, rfl, rfl, h⟩ | h
  · exact va5 vqy voj vph vg2 vy4 (p.2.1, p.2.2.1, q.1) _ k r (fun z => rfl) h
  cases h
def wab : (Int × Int × (List dTxn)) → List AV := (fun x => [.own 0, .int .i64 x.1, .int .i64 x.2.1])
def v9q : (Int × Int × (List dTxn)) → St := (fun x => [.dep tTxn x.2.2 0])
def v45 : (Int × Int × (List dTxn)) → Out × List AV × St := (fun z => ((.exit 0), [.own 0, .int .i64 z.1, .int .i64 z.2.1], [.dep tTxn z.2.2 0]))
theorem wrn (x : (Int × Int × (List dTxn))) : exec G73 ⟨1, 72, vat⟩ (vad Try.f54 0) (va3 ⟨1, 72, vat⟩ [0, 1, 5] []) (va0 (vay 72) [0, 1, 5] (wab x)) (v9q x) = vll x (Sum.elim (fun y => some ⟨.norm, wab y, v9q y⟩) fun z => some ⟨(v45 z).1, (v45 z).2.1, (v45 z).2.2⟩) := by
  kernel_rfl
theorem wo3 : ∀ sp, (vat 0) = some sp → vbc G73 ⟨1, 72, vat⟩ sp (vad Try.f54 0) := by
  intro sp hsp vals st k r h
  cases hsp
  dsimp only at h
  rcases vae h with ⟨p, q, rfl, rfl, h⟩ | h
  · exact vaq wek wab v9q v45 (fun z => by (intro h; cases h)) wrn Fuel (p.2.1, p.2.2.1, q.1) _ k r (fun z => rfl) h
  cases h
theorem ww0 (a0 : Int) (a1 : (List dTxn)) : var G73 vat Try.f54 [.own 0, .int .i64 a0] [.dep tTxn a1 0] = vwa a0 a1 (fun (y : (Int × (List dTxn))) => some ⟨.ret, [.int .i64 y.1], [.dep tTxn y.2 0]⟩) := by rw [wkz]; kernel_rfl
theorem wyz : vao G73 ⟨1, 72, vat⟩ (Try.f54.body.getD .skip) :=
  vah (ids := [5000003, 5000017, 5000015, 5000011, 5000009, 5000007, 5000005, 0]) (by kernel_rfl) (by kernel_rfl) ⟨vzr, ⟨vzp, ⟨v0g, ⟨vy0, ⟨vza, ⟨vy9, ⟨vyw, ⟨wo3, trivial⟩⟩⟩⟩⟩⟩⟩⟩
theorem vxj : val Try.prog 54 vir := by
  refine told G73_ok follows Try.func54 (c := Try.f54.body.getD .skip) (by kernel_rfl) ?_
  intro args s k r hk
  unfold vir at hk
  rcases vag hk with ⟨p, q, rfl, rfl⟩ | hk
  · exact ⟨vat, (wk4 p.2.1 q.1).map _, ww0 p.2.1 q.1, wyz⟩
  cases hk
def G74 : Glob := G73.add 54 vir
theorem G74_ok : GlobOk Try.prog G74 := G73_ok.add ⟨Try.f54, Try.func54, by kernel_rfl, by kernel_rfl⟩ vxj
def vtr : Nat → Option LoopSpec
  | _ => none
theorem wv6 (a0 : Int) (a1 : Int) (a2 : Int) (a3 : (List vac)) (a4 : (List dTxn)) (a5 : (List dTxn)) : var G74 vtr Try.f53 [.agg [.own 0, .own 1, .own 2, .int .i64 a0, .int .i64 a1], .int .i64 a2] [.arr tVersion a3, .dep tTxn a4 0, .dep tTxn a5 0] = vu3 a0 a1 a2 a3 a4 a5 (fun (y : q37T) => some ⟨.ret, [.int .i64 y.1], [.arr tVersion y.2.1, .dep tTxn y.2.2.1 0, .dep tTxn y.2.2.2 0]⟩) := by rw [wke]; kernel_rfl
theorem w3e : vao G74 ⟨3, 18, vtr⟩ (Try.f53.body.getD .skip) :=
  vah (ids := []) (by kernel_rfl) (by kernel_rfl) trivial
theorem vxx : val Try.prog 53 vij := by
  refine told G74_ok follows Try.func53 (c := Try.f53.body.getD .skip) (by kernel_rfl) ?_
  intro args s k r hk
  unfold vij at hk
  rcases vag hk with ⟨p, q, rfl, rfl⟩ | hk
  · exact ⟨vtr, (wnt p.1.2.2.2.1 p.1.2.2.2.2.1 p.2.1 q.1 q.2.1 q.2.2.1).map _, wv6 p.1.2.2.2.1 p.1.2.2.2.2.1 p.2.1 q.1 q.2.1 q.2.2.1, w3e⟩
  cases hk
def G75 : Glob := G74.add 53 vij
theorem G75_ok : GlobOk Try.prog G75 := G74_ok.add ⟨Try.f53, Try.func53, by kernel_rfl, by kernel_rfl⟩ vxx
def vgn : Nat → Option LoopSpec
  | 0 => some ⟨[0, 1, 4, 5], [], fun vals st k => vaj [.lst tVersion, .int .i64, .int .i64, .int .i64] [] vals st (fun p q => vai vkk Fuel (p.1, p.2.1, p.2.2.1, p.2.2.2.1) (Sum.elim (fun z => k .ret [.lst tVersion z.1, .int .i64 z.2.1, .int .i64 z.2.2.1, .int .i64 z.2.2.2] []) (fun z => k (.exit 0) [.lst tVersion z.1, .int .i64 z.2.1, .int .i64 z.2.2.1, .int .i64 z.2.2.2] [])))
      (none)⟩
  | 2000004 => some ⟨[0, 2, 4, 6, 8, 10, 13, 14], [], fun _ _ _ => none⟩
  | 2000007 => some ⟨[0, 2, 4, 6, 8, 10, 13, 14], [], fun _ _ _ => none⟩
  | _ => none
def v9h : q11T → List AV := (fun x => [.lst tVersion x.1, .int .i64 x.2.1, .int .i64 x.2.2.1, .int .i64 x.2.2.2])
def v81 : q11T → St := (fun x => [])
def v42 : (q11T ⊕ q11T) → Out × List AV × St := (Sum.elim (fun z => (.ret, [.lst tVersion z.1, .int .i64 z.2.1, .int .i64 z.2.2.1, .int .i64 z.2.2.2], [])) (fun z => ((.exit 0), [.lst tVersion z.1, .int .i64 z.2.1, .int .i64 z.2.2.1, .int .i64 z.2.2.2], [])))
theorem wrv (x : q11T) : exec G75 ⟨0, 53, vgn⟩ (vad Try.f125 0) (va3 ⟨0, 53, vgn⟩ [0, 1, 4, 5] []) (va0 (vay 53) [0, 1, 4, 5] (v9h x)) (v81 x) = vkk x (Sum.elim (fun y => some ⟨.norm, v9h y, v81 y⟩) fun z => some ⟨(v42 z).1, (v42 z).2.1, (v42 z).2.2⟩) := by
  kernel_rfl
theorem woh : ∀ sp, (vgn 0) = some sp → vbc G75 ⟨0, 53, vgn⟩ sp (vad Try.f125 0) := by
  intro sp hsp vals st k r h
  cases hsp
  dsimp only at h
  rcases vae h with ⟨p, q, rfl, rfl, h⟩ | h
  · exact vaq wd9 v9h v81 v42 (fun z => by rcases z with z | z <;> (intro h; cases h)) wrv Fuel (p.1, p.2.1, p.2.2.1, p.2.2.2.1) _ k r (fun z => by rcases z with z | z <;> rfl) h
  cases h
theorem w3i (a0 : (List vac)) (a1 : Int) : var G75 vgn Try.f125 [.lst tVersion a0, .int .i64 a1] [] = vwf a0 a1 (fun (y : Int) => some ⟨.ret, [.int .i64 y], []⟩) := by rw [wi2]; kernel_rfl
theorem w0z : vao G75 ⟨0, 53, vgn⟩ (Try.f125.body.getD .skip) :=
  vah (ids := [0]) (by kernel_rfl) (by kernel_rfl) ⟨woh, trivial⟩
theorem wwd : val Try.prog 125 wks := by
  refine told G75_ok follows Try.func125 (c := Try.f125.body.getD .skip) (by kernel_rfl) ?_
  intro args s k r hk
  unfold wks at hk
  rcases vag hk with ⟨p, q, rfl, rfl⟩ | hk
  · exact ⟨vgn, (wt6 p.1 p.2.1).map _, w3i p.1 p.2.1, w0z⟩
  cases hk
def G76 : Glob := G75.add 125 wks
theorem G76_ok : GlobOk Try.prog G76 := G75_ok.add ⟨Try.f125, Try.func125, by kernel_rfl, by kernel_rfl⟩ wwd
def vf2 : Nat → Option LoopSpec
  | 0 => some ⟨[0, 1, 4, 5], [], fun vals st k => vaj [.lst tRange, .int .i64, .int .i64, .int .i64] [] vals st (fun p q => vai vkw Fuel (p.1, p.2.1, p.2.2.1, p.2.2.2.1) (Sum.elim (fun z => k .ret [.lst tRange z.1, .int .i64 z.2.1, .int .i64 z.2.2.1, .int .i64 z.2.2.2] []) (fun z => k (.exit 0) [.lst tRange z.1, .int .i64 z.2.1, .int .i64 z.2.2.1, .int .i64 z.2.2.2] [])))
      (none)⟩
  | 2000004 => some ⟨[0, 2, 4, 6, 8, 10, 13, 14], [], fun _ _ _ => none⟩
  | 2000007 => some ⟨[0, 2, 4, 6, 8, 10, 13, 14], [], fun _ _ _ => none⟩
  | _ => none
def v84 : q3T → List AV := (fun x => [.lst tRange x.1, .int .i64 x.2.1, .int .i64 x.2.2.1, .int .i64 x.2.2.2])
def wa9 : q3T → St := (fun x => [])
def v3m : (q3T ⊕ q3T) → Out × List AV × St := (Sum.elim (fun z => (.ret, [.lst tRange z.1, .int .i64 z.2.1, .int .i64 z.2.2.1, .int .i64 z.2.2.2], [])) (fun z => ((.exit 0), [.lst tRange z.1, .int .i64 z.2.1, .int .i64 z.2.2.1, .int .i64 z.2.2.2], [])))
theorem wog (x : q3T) : exec G76 ⟨0, 33, vf2⟩ (vad Try.f199 0) (va3 ⟨0, 33, vf2⟩ [0, 1, 4, 5] []) (va0 (vay 33) [0, 1, 4, 5] (v84 x)) (wa9 x) = vkw x (Sum.elim (fun y => some ⟨.norm, v84 y, wa9 y⟩) fun z => some ⟨(v3m z).1, (v3m z).2.1, (v3m z).2.2⟩) := by
  kernel_rfl
theorem wp4 : ∀ sp, (vf2 0) = some sp → vbc G76 ⟨0, 33, vf2⟩ sp (vad Try.f199 0) := by
  intro sp hsp vals st k r h
  cases hsp
  dsimp only at h
  rcases vae h with ⟨p, q, rfl, rfl, h⟩ | h
  · exact vaq wdv v84 wa9 v3m (fun z => by rcases z with z | z <;> (intro h; cases h)) wog Fuel (p.1, p.2.1, p.2.2.1, p.2.2.2.1) _ k r (fun z => by rcases z with z | z <;> rfl) h
  cases h
theorem w22 (a0 : (List van)) (a1 : Int) : var G76 vf2 Try.f199 [.lst tRange a0, .int .i64 a1] [] = vvl a0 a1 (fun (y : Int) => some ⟨.ret, [.int .i64 y], []⟩) := by rw [wlr]; kernel_rfl
theorem w0b : vao G76 ⟨0, 33, vf2⟩ (Try.f199.body.getD .skip) :=
  vah (ids := [0]) (by kernel_rfl) (by kernel_rfl) ⟨wp4, trivial⟩
theorem wxd : val Try.prog 199 wjd := by
  refine told G76_ok follows Try.func199 (c := Try.f199.body.getD .skip) (by kernel_rfl) ?_
  intro args s k r hk
  unfold wjd at hk
  rcases vag hk with ⟨p, q, rfl, rfl⟩ | hk
  · exact ⟨vf2, (wub p.1 p.2.1).map _, w22 p.1 p.2.1, w0b⟩
  cases hk
def G77 : Glob := G76.add 199 wjd
theorem G77_ok : GlobOk Try.prog G77 := G76_ok.add ⟨Try.f199, Try.func199, by kernel_rfl, by kernel_rfl⟩ wxd
def vgm : Nat → Option LoopSpec
  | 0 => some ⟨[0, 1, 4, 5], [], fun vals st k => vaj [.lst tWrite, .int .i64, .int .i64, .int .i64] [] vals st (fun p q => vai vkj Fuel (p.1, p.2.1, p.2.2.1, p.2.2.2.1) (Sum.elim (fun z => k .ret [.lst tWrite z.1, .int .i64 z.2.1, .int .i64 z.2.2.1, .int .i64 z.2.2.2] []) (fun z => k (.exit 0) [.lst tWrite z.1, .int .i64 z.2.1, .int .i64 z.2.2.1, .int .i64 z.2.2.2] [])))
      (none)⟩
  | 2000004 => some ⟨[0, 2, 4, 6, 8, 10, 13, 14], [], fun _ _ _ => none⟩
  | 2000007 => some ⟨[0, 2, 4, 6, 8, 10, 13, 14], [], fun _ _ _ => none⟩
  | _ => none
def v9w : q14T → List AV := (fun x => [.lst tWrite x.1, .int .i64 x.2.1, .int .i64 x.2.2.1, .int .i64 x.2.2.2])
def v7z : q14T → St := (fun x => [])
def v27 : (q14T ⊕ q14T) → Out × List AV × St := (Sum.elim (fun z => (.ret, [.lst tWrite z.1, .int .i64 z.2.1, .int .i64 z.2.2.1, .int .i64 z.2.2.2], [])) (fun z => ((.exit 0), [.lst tWrite z.1, .int .i64 z.2.1, .int .i64 z.2.2.1, .int .i64 z.2.2.2], [])))
theorem wsm (x : q14T) : exec G77 ⟨0, 44, vgm⟩ (vad Try.f200 0) (va3 ⟨0, 44, vgm⟩ [0, 1, 4, 5] []) (va0 (vay 44) [0, 1, 4, 5] (v9w x)) (v7z x) = vkj x (Sum.elim (fun y => some ⟨.norm, v9w y, v7z y⟩) fun z => some ⟨(v27 z).1, (v27 z).2.1, (v27 z).2.2⟩) := by
  kernel_rfl
theorem wqq : ∀ sp, (vgm 0) = some sp → vbc G77 ⟨0, 44, vgm⟩ sp (vad Try.f200 0) := by
  intro sp hsp vals st k r h
  cases hsp
  dsimp only at h
  rcases vae h with ⟨p, q, rfl, rfl, h⟩ | h
  · exact vaq wdk v9w v7z v27 (fun z => by rcases z with z | z <;> (intro h; cases h)) wsm Fuel (p.1, p.2.1, p.2.2.1, p.2.2.2.1) _ k r (fun z => by rcases z with z | z <;> rfl) h
  cases h
theorem wwa (a0 : (List vam)) (a1 : Int) : var G77 vgm Try.f200 [.lst tWrite a0, .int .i64 a1] [] = vvk a0 a1 (fun (y : Int) => some ⟨.ret, [.int .i64 y], []⟩) := by rw [wng]; kernel_rfl
theorem w1w : vao G77 ⟨0, 44, vgm⟩ (Try.f200.body.getD .skip) :=
  vah (ids := [0]) (by kernel_rfl) (by kernel_rfl) ⟨wqq, trivial⟩
theorem w00 : val Try.prog 200 wh3 := by
  refine told G77_ok follows Try.func200 (c := Try.f200.body.getD .skip) (by kernel_rfl) ?_
  intro args s k r hk
  unfold wh3 at hk
  rcases vag hk with ⟨p, q, rfl, rfl⟩ | hk
  · exact ⟨vgm, (wtn p.1 p.2.1).map _, wwa p.1 p.2.1, w1w⟩
  cases hk
def G78 : Glob := G77.add 200 wh3
theorem G78_ok : GlobOk Try.prog G78 := G77_ok.add ⟨Try.f200, Try.func200, by kernel_rfl, by kernel_rfl⟩ w00
def vgk : Nat → Option LoopSpec
  | 0 => some ⟨[0, 1, 4, 5], [], fun vals st k => vaj [.lst tTxn, .int .i64, .int .i64, .int .i64] [] vals st (fun p q => vai vkz Fuel (p.1, p.2.1, p.2.2.1, p.2.2.2.1) (Sum.elim (fun z => k .ret [.lst tTxn z.1, .int .i64 z.2.1, .int .i64 z.2.2.1, .int .i64 z.2.2.2] []) (fun z => k (.exit 0) [.lst tTxn z.1, .int .i64 z.2.1, .int .i64 z.2.2.1, .int .i64 z.2.2.2] [])))
      (none)⟩
  | 2000025 => some ⟨[0, 2, 4, 6, 8, 10, 13, 14], [], fun _ _ _ => none⟩
  | _ => none
def v8n : q7T → List AV := (fun x => [.lst tTxn x.1, .int .i64 x.2.1, .int .i64 x.2.2.1, .int .i64 x.2.2.2])
def v8y : q7T → St := (fun x => [])
def v2m : (q7T ⊕ q7T) → Out × List AV × St := (Sum.elim (fun z => (.ret, [.lst tTxn z.1, .int .i64 z.2.1, .int .i64 z.2.2.1, .int .i64 z.2.2.2], [])) (fun z => ((.exit 0), [.lst tTxn z.1, .int .i64 z.2.1, .int .i64 z.2.2.1, .int .i64 z.2.2.2], [])))
theorem wo7 (x : q7T) : exec G78 ⟨0, 88, vgk⟩ (vad Try.f126 0) (va3 ⟨0, 88, vgk⟩ [0, 1, 4, 5] []) (va0 (vay 88) [0, 1, 4, 5] (v8n x)) (v8y x) = vkz x (Sum.elim (fun y => some ⟨.norm, v8n y, v8y y⟩) fun z => some ⟨(v2m z).1, (v2m z).2.1, (v2m z).2.2⟩) := by
  kernel_rfl
theorem wrd : ∀ sp, (vgk 0) = some sp → vbc G78 ⟨0, 88, vgk⟩ sp (vad Try.f126 0) := by
  intro sp hsp vals st k r h
  cases hsp
  dsimp only at h
  rcases vae h with ⟨p, q, rfl, rfl, h⟩ | h
  · exact vaq wc3 v8n v8y v2m (fun z => by rcases z with z | z <;> (intro h; cases h)) wo7 Fuel (p.1, p.2.1, p.2.2.1, p.2.2.2.1) _ k r (fun z => by rcases z with z | z <;> rfl) h
  cases h
theorem wxo (a0 : (List dTxn)) (a1 : Int) : var G78 vgk Try.f126 [.lst tTxn a0, .int .i64 a1] [] = vuz a0 a1 (fun (y : Int) => some ⟨.ret, [.int .i64 y], []⟩) := by rw [wls]; kernel_rfl
theorem w2k : vao G78 ⟨0, 88, vgk⟩ (Try.f126.body.getD .skip) :=
  vah (ids := [0]) (by kernel_rfl) (by kernel_rfl) ⟨wrd, trivial⟩
theorem w06 : val Try.prog 126 wik := by
  refine told G78_ok follows Try.func126 (c := Try.f126.body.getD .skip) (by kernel_rfl) ?_
  intro args s k r hk
  unfold wik at hk
  rcases vag hk with ⟨p, q, rfl, rfl⟩ | hk
  · exact ⟨vgk, (wm0 p.1 p.2.1).map _, wxo p.1 p.2.1, w2k⟩
  cases hk
def G79 : Glob := G78.add 126 wik
theorem G79_ok : GlobOk Try.prog G79 := G78_ok.add ⟨Try.f126, Try.func126, by kernel_rfl, by kernel_rfl⟩ w06
def vs3 : Nat → Option LoopSpec
  | _ => none
theorem wv8 (a0 : (List vac)) (a1 : (List dTxn)) (a2 : (List dTxn)) (a3 : Int) (a4 : Int) (a5 : Int) : var G79 vs3 Try.f55 [.agg [.lst tVersion a0, .lst tTxn a1, .lst tTxn a2, .int .i64 a3, .int .i64 a4], .int .i64 a5] [] = vr3 (a0, (a1, (a2, (a3, a4)))) a5 (fun (y : Int) => some ⟨.ret, [.int .i64 y], []⟩) := by rw [wm5]; kernel_rfl
theorem w11 : vao G79 ⟨0, 24, vs3⟩ (Try.f55.body.getD .skip) :=
  vah (ids := []) (by kernel_rfl) (by kernel_rfl) trivial
theorem w1q : val Try.prog 55 wj9 := by
  refine told G79_ok follows Try.func55 (c := Try.f55.body.getD .skip) (by kernel_rfl) ?_
  intro args s k r hk
  unfold wj9 at hk
  rcases vag hk with ⟨p, q, rfl, rfl⟩ | hk
  · exact ⟨vs3, (wew (p.1.1, (p.1.2.1, (p.1.2.2.1, (p.1.2.2.2.1, p.1.2.2.2.2.1)))) p.2.1).map _, wv8 p.1.1 p.1.2.1 p.1.2.2.1 p.1.2.2.2.1 p.1.2.2.2.2.1 p.2.1, w11⟩
  cases hk
def G80 : Glob := G79.add 55 wj9
theorem G80_ok : GlobOk Try.prog G80 := G79_ok.add ⟨Try.f55, Try.func55, by kernel_rfl, by kernel_rfl⟩ w1q
def vc9 : Nat → Option LoopSpec
  | 5000018 => some ⟨[4, 8, 11], [], fun vals st k => vaj [.bool, .bp 0 0, .int .i64] [.box [.own 1, .own 2, .own 3, .int .i64, .int .i64], .arr tVersion, .dep tTxn 0, .dep tTxn 0] vals st (fun p q => vcr (p.1, p.2.2.1, q.1.2.2.2.1, q.1.2.2.2.2.1, q.2.1, q.2.2.1, q.2.2.2.1) (fun z => k .ret [.bool z.1, .bp 0 0, .int .i64 z.2.1] [.box [.own 1, .own 2, .own 3, .int .i64 z.2.2.1, .int .i64 z.2.2.2.1], .arr tVersion z.2.2.2.2.1, .dep tTxn z.2.2.2.2.2.1 0, .dep tTxn z.2.2.2.2.2.2 0]))
      (none)⟩
  | 5000007 => some ⟨[0, 1, 4, 5, 6, 7, 8], [], fun vals st k => vaj [.str, .int .i64, .bool, .bp 0 0, .int .i64, .bool, .bp 1 0] [.box [.own 2, .own 3, .own 4, .int .i64, .int .i64], .box [.own 5, .own 6, .own 7, .int .i64, .int .i64], .arr tVersion, .dep tTxn 0, .dep tTxn 0, .arr tVersion, .dep tTxn 0, .dep tTxn 0] vals st (fun p q => vbx (.inl (p.1, p.2.1, p.2.2.1, p.2.2.2.2.1, p.2.2.2.2.2.1, q.1.2.2.2.1, q.1.2.2.2.2.1, q.2.1.2.2.2.1, q.2.1.2.2.2.2.1, q.2.2.1, q.2.2.2.1, q.2.2.2.2.1, q.2.2.2.2.2.1, q.2.2.2.2.2.2.1, q.2.2.2.2.2.2.2.1)) (Sum.elim (fun z => k .ret [.str z.1, .int .i64 z.2.1, .bool z.2.2.1, .bp 0 0, .int .i64 z.2.2.2.1, .bool z.2.2.2.2.1, .bp 1 0] [.box [.own 2, .own 3, .own 4, .int .i64 z.2.2.2.2.2.1, .int .i64 z.2.2.2.2.2.2.1], .box [.own 5, .own 6, .own 7, .int .i64 z.2.2.2.2.2.2.2.1, .int .i64 z.2.2.2.2.2.2.2.2.1], .arr tVersion z.2.2.2.2.2.2.2.2.2.1, .dep tTxn z.2.2.2.2.2.2.2.2.2.2.1 0, .dep tTxn z.2.2.2.2.2.2.2.2.2.2.2.1 0, .arr tVersion z.2.2.2.2.2.2.2.2.2.2.2.2.1, .dep tTxn z.2.2.2.2.2.2.2.2.2.2.2.2.2.1 0, .dep tTxn z.2.2.2.2.2.2.2.2.2.2.2.2.2.2 0]) (Sum.elim (fun z => k .ret [.str z.1, .int .i64 z.2.1, .bool z.2.2.1, .bp 0 0, .int .i64 z.2.2.2.1, .bool z.2.2.2.2.1, .bp 1 0] [.box [.own 2, .own 3, .own 4, .int .i64 z.2.2.2.2.2.1, .int .i64 z.2.2.2.2.2.2.1], .box [.own 5, .own 6, .own 7, .int .i64 z.2.2.2.2.2.2.2.1, .int .i64 z.2.2.2.2.2.2.2.2.1], .arr tVersion z.2.2.2.2.2.2.2.2.2.1, .arr tTxn z.2.2.2.2.2.2.2.2.2.2.1, .arr tTxn z.2.2.2.2.2.2.2.2.2.2.2.1, .arr tVersion z.2.2.2.2.2.2.2.2.2.2.2.2.1, .dep tTxn z.2.2.2.2.2.2.2.2.2.2.2.2.2.1 0, .dep tTxn z.2.2.2.2.2.2.2.2.2.2.2.2.2.2 0]) (fun z => k .ret [.dead, .dead, .bool z.1, .dead, .dead, .dead, .bp 0 0] [.box [.own 1, .own 2, .own 3, .int .i64 z.2.1, .int .i64 z.2.2.1], .arr tVersion z.2.2.2.1, .dep tTxn z.2.2.2.2.1 0, .dep tTxn z.2.2.2.2.2 0]))))
      (vaj [.str, .int .i64, .bool, .bp 0 0, .int .i64, .bool, .bp 1 0] [.box [.own 2, .own 3, .own 4, .int .i64, .int .i64], .box [.own 5, .own 6, .own 7, .int .i64, .int .i64], .arr tVersion, .arr tTxn, .arr tTxn, .arr tVersion, .dep tTxn 0, .dep tTxn 0] vals st (fun p q => vbx (.inr (p.1, p.2.1, p.2.2.1, p.2.2.2.2.1, p.2.2.2.2.2.1, q.1.2.2.2.1, q.1.2.2.2.2.1, q.2.1.2.2.2.1, q.2.1.2.2.2.2.1, q.2.2.1, q.2.2.2.1, q.2.2.2.2.1, q.2.2.2.2.2.1, q.2.2.2.2.2.2.1, q.2.2.2.2.2.2.2.1)) (Sum.elim (fun z => k .ret [.str z.1, .int .i64 z.2.1, .bool z.2.2.1, .bp 0 0, .int .i64 z.2.2.2.1, .bool z.2.2.2.2.1, .bp 1 0] [.box [.own 2, .own 3, .own 4, .int .i64 z.2.2.2.2.2.1, .int .i64 z.2.2.2.2.2.2.1], .box [.own 5, .own 6, .own 7, .int .i64 z.2.2.2.2.2.2.2.1, .int .i64 z.2.2.2.2.2.2.2.2.1], .arr tVersion z.2.2.2.2.2.2.2.2.2.1, .dep tTxn z.2.2.2.2.2.2.2.2.2.2.1 0, .dep tTxn z.2.2.2.2.2.2.2.2.2.2.2.1 0, .arr tVersion z.2.2.2.2.2.2.2.2.2.2.2.2.1, .dep tTxn z.2.2.2.2.2.2.2.2.2.2.2.2.2.1 0, .dep tTxn z.2.2.2.2.2.2.2.2.2.2.2.2.2.2 0]) (Sum.elim (fun z => k .ret [.str z.1, .int .i64 z.2.1, .bool z.2.2.1, .bp 0 0, .int .i64 z.2.2.2.1, .bool z.2.2.2.2.1, .bp 1 0] [.box [.own 2, .own 3, .own 4, .int .i64 z.2.2.2.2.2.1, .int .i64 z.2.2.2.2.2.2.1], .box [.own 5, .own 6, .own 7, .int .i64 z.2.2.2.2.2.2.2.1, .int .i64 z.2.2.2.2.2.2.2.2.1], .arr tVersion z.2.2.2.2.2.2.2.2.2.1, .arr tTxn z.2.2.2.2.2.2.2.2.2.2.1, .arr tTxn z.2.2.2.2.2.2.2.2.2.2.2.1, .arr tVersion z.2.2.2.2.2.2.2.2.2.2.2.2.1, .dep tTxn z.2.2.2.2.2.2.2.2.2.2.2.2.2.1 0, .dep tTxn z.2.2.2.2.2.2.2.2.2.2.2.2.2.2 0]) (fun z => k .ret [.dead, .dead, .bool z.1, .dead, .dead, .dead, .bp 0 0] [.box [.own 1, .own 2, .own 3, .int .i64 z.2.1, .int .i64 z.2.2.1], .arr tVersion z.2.2.2.1, .dep tTxn z.2.2.2.2.1 0, .dep tTxn z.2.2.2.2.2 0]))))
      (none))⟩
  | _ => none
def vpp : q24T → List AV := (fun x => [.bool x.1, .bp 0 0, .int .i64 x.2.1])
def vpz : q24T → St := (fun x => [.box [.own 1, .own 2, .own 3, .int .i64 x.2.2.1, .int .i64 x.2.2.2.1], .arr tVersion x.2.2.2.2.1, .dep tTxn x.2.2.2.2.2.1 0, .dep tTxn x.2.2.2.2.2.2 0])
def vgu : q24T → Out × List AV × St := (fun z => (.ret, [.bool z.1, .bp 0 0, .int .i64 z.2.1], [.box [.own 1, .own 2, .own 3, .int .i64 z.2.2.1, .int .i64 z.2.2.2.1], .arr tVersion z.2.2.2.2.1, .dep tTxn z.2.2.2.2.2.1 0, .dep tTxn z.2.2.2.2.2.2 0]))
theorem vz5 (x : q24T) : exec G80 ⟨0, 87, vc9⟩ (vad Try.f12 5000018) (va3 ⟨0, 87, vc9⟩ [4, 8, 11] []) (va0 (vay 87) [4, 8, 11] (vpp x)) (vpz x) = vcr x (fun z => some ⟨(vgu z).1, (vgu z).2.1, (vgu z).2.2⟩) := by
  kernel_rfl
theorem v0e : ∀ sp, (vc9 5000018) = some sp → vep G80 ⟨0, 87, vc9⟩ sp (vad Try.f12 5000018) := by
  intro sp hsp vals st k r h
  cases hsp
  dsimp only at h
  rcases vae h with ⟨p, q, rfl, rfl, h⟩ | h
  · exact va5 vjm vpp vpz vgu vz5 (p.1, p.2.2.1, q.1.2.2.2.1, q.1.2.2.2.2.1, q.2.1, q.2.2.1, q.2.2.2.1) _ k r (fun z => rfl) h
  cases h
def vjp : (q29T ⊕ q29T) → List AV := (Sum.elim (fun x => [.str x.1, .int .i64 x.2.1, .bool x.2.2.1, .bp 0 0, .int .i64 x.2.2.2.1, .bool x.2.2.2.2.1, .bp 1 0]) (fun x => [.str x.1, .int .i64 x.2.1, .bool x.2.2.1, .bp 0 0, .int .i64 x.2.2.2.1, .bool x.2.2.2.2.1, .bp 1 0]))
def vjn : (q29T ⊕ q29T) → St := (Sum.elim (fun x => [.box [.own 2, .own 3, .own 4, .int .i64 x.2.2.2.2.2.1, .int .i64 x.2.2.2.2.2.2.1], .box [.own 5, .own 6, .own 7, .int .i64 x.2.2.2.2.2.2.2.1, .int .i64 x.2.2.2.2.2.2.2.2.1], .arr tVersion x.2.2.2.2.2.2.2.2.2.1, .dep tTxn x.2.2.2.2.2.2.2.2.2.2.1 0, .dep tTxn x.2.2.2.2.2.2.2.2.2.2.2.1 0, .arr tVersion x.2.2.2.2.2.2.2.2.2.2.2.2.1, .dep tTxn x.2.2.2.2.2.2.2.2.2.2.2.2.2.1 0, .dep tTxn x.2.2.2.2.2.2.2.2.2.2.2.2.2.2 0]) (fun x => [.box [.own 2, .own 3, .own 4, .int .i64 x.2.2.2.2.2.1, .int .i64 x.2.2.2.2.2.2.1], .box [.own 5, .own 6, .own 7, .int .i64 x.2.2.2.2.2.2.2.1, .int .i64 x.2.2.2.2.2.2.2.2.1], .arr tVersion x.2.2.2.2.2.2.2.2.2.1, .arr tTxn x.2.2.2.2.2.2.2.2.2.2.1, .arr tTxn x.2.2.2.2.2.2.2.2.2.2.2.1, .arr tVersion x.2.2.2.2.2.2.2.2.2.2.2.2.1, .dep tTxn x.2.2.2.2.2.2.2.2.2.2.2.2.2.1 0, .dep tTxn x.2.2.2.2.2.2.2.2.2.2.2.2.2.2 0]))
def ve2 : (q29T ⊕ (q29T ⊕ q23T)) → Out × List AV × St := (Sum.elim (fun z => (.ret, [.str z.1, .int .i64 z.2.1, .bool z.2.2.1, .bp 0 0, .int .i64 z.2.2.2.1, .bool z.2.2.2.2.1, .bp 1 0], [.box [.own 2, .own 3, .own 4, .int .i64 z.2.2.2.2.2.1, .int .i64 z.2.2.2.2.2.2.1], .box [.own 5, .own 6, .own 7, .int .i64 z.2.2.2.2.2.2.2.1, .int .i64 z.2.2.2.2.2.2.2.2.1], .arr tVersion z.2.2.2.2.2.2.2.2.2.1, .dep tTxn z.2.2.2.2.2.2.2.2.2.2.1 0, .dep tTxn z.2.2.2.2.2.2.2.2.2.2.2.1 0, .arr tVersion z.2.2.2.2.2.2.2.2.2.2.2.2.1, .dep tTxn z.2.2.2.2.2.2.2.2.2.2.2.2.2.1 0, .dep tTxn z.2.2.2.2.2.2.2.2.2.2.2.2.2.2 0])) (Sum.elim (fun z => (.ret, [.str z.1, .int .i64 z.2.1, .bool z.2.2.1, .bp 0 0, .int .i64 z.2.2.2.1, .bool z.2.2.2.2.1, .bp 1 0], [.box [.own 2, .own 3, .own 4, .int .i64 z.2.2.2.2.2.1, .int .i64 z.2.2.2.2.2.2.1], .box [.own 5, .own 6, .own 7, .int .i64 z.2.2.2.2.2.2.2.1, .int .i64 z.2.2.2.2.2.2.2.2.1], .arr tVersion z.2.2.2.2.2.2.2.2.2.1, .arr tTxn z.2.2.2.2.2.2.2.2.2.2.1, .arr tTxn z.2.2.2.2.2.2.2.2.2.2.2.1, .arr tVersion z.2.2.2.2.2.2.2.2.2.2.2.2.1, .dep tTxn z.2.2.2.2.2.2.2.2.2.2.2.2.2.1 0, .dep tTxn z.2.2.2.2.2.2.2.2.2.2.2.2.2.2 0])) (fun z => (.ret, [.dead, .dead, .bool z.1, .dead, .dead, .dead, .bp 0 0], [.box [.own 1, .own 2, .own 3, .int .i64 z.2.1, .int .i64 z.2.2.1], .arr tVersion z.2.2.2.1, .dep tTxn z.2.2.2.2.1 0, .dep tTxn z.2.2.2.2.2 0]))))
theorem vp9 (x : (q29T ⊕ q29T)) : exec G80 ⟨0, 87, vc9⟩ (vad Try.f12 5000007) (va3 ⟨0, 87, vc9⟩ [0, 1, 4, 5, 6, 7, 8] []) (va0 (vay 87) [0, 1, 4, 5, 6, 7, 8] (vjp x)) (vjn x) = vbx x (fun z => some ⟨(ve2 z).1, (ve2 z).2.1, (ve2 z).2.2⟩) := by
  rcases x with x | x <;> kernel_rfl
theorem vzo : ∀ sp, (vc9 5000007) = some sp → vep G80 ⟨0, 87, vc9⟩ sp (vad Try.f12 5000007) := by
  intro sp hsp vals st k r h
  cases hsp
  dsimp only at h
  rcases vae h with ⟨p, q, rfl, rfl, h⟩ | h
  · exact va5 vhi vjp vjn ve2 vp9 (.inl (p.1, p.2.1, p.2.2.1, p.2.2.2.2.1, p.2.2.2.2.2.1, q.1.2.2.2.1, q.1.2.2.2.2.1, q.2.1.2.2.2.1, q.2.1.2.2.2.2.1, q.2.2.1, q.2.2.2.1, q.2.2.2.2.1, q.2.2.2.2.2.1, q.2.2.2.2.2.2.1, q.2.2.2.2.2.2.2.1)) _ k r (fun z => by rcases z with z | z | z <;> rfl) h
  rcases vae h with ⟨p, q, rfl, rfl, h⟩ | h
  · exact va5 vhi vjp vjn ve2 vp9 (.inr (p.1, p.2.1, p.2.2.1, p.2.2.2.2.1, p.2.2.2.2.2.1, q.1.2.2.2.1, q.1.2.2.2.2.1, q.2.1.2.2.2.1, q.2.1.2.2.2.2.1, q.2.2.1, q.2.2.2.1, q.2.2.2.2.1, q.2.2.2.2.2.1, q.2.2.2.2.2.2.1, q.2.2.2.2.2.2.2.1)) _ k r (fun z => by rcases z with z | z | z <;> rfl) h
  cases h
theorem wz7 (a0 : ByteArray) (a1 : Int) : var G80 vc9 Try.f12 [.str a0, .int .i64 a1] [] = v0t a0 a1 (fun (y : Bool) => some ⟨.ret, [.bool y], []⟩) := by rw [wm1]; kernel_rfl
theorem wzi : vao G80 ⟨0, 87, vc9⟩ (Try.f12.body.getD .skip) :=
  vah (ids := [5000018, 5000007]) (by kernel_rfl) (by kernel_rfl) ⟨v0e, ⟨vzo, trivial⟩⟩
theorem wug : val Try.prog 12 wen := by
  refine told G80_ok follows Try.func12 (c := Try.f12.body.getD .skip) (by kernel_rfl) ?_
  intro args s k r hk
  unfold wen at hk
  rcases vag hk with ⟨p, q, rfl, rfl⟩ | hk
  · exact ⟨vc9, (w1o p.1 p.2.1).map _, wz7 p.1 p.2.1, wzi⟩
  cases hk
def G81 : Glob := G80.add 12 wen
theorem w3u : GlobOk Try.prog G81 := G80_ok.add ⟨Try.f12, Try.func12, by kernel_rfl, by kernel_rfl⟩ wug
end
end Go.VE
