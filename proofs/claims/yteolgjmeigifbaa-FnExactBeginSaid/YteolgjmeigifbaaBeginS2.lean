/- Each function told by its native program; written by gen.py. -/
import Derived.Test.YteolgjmeigifbaaBeginS1
namespace Go.VE
open Go.Proofs
noncomputable section
set_option linter.unusedVariables false
set_option linter.unusedSimpArgs false
set_option maxRecDepth 100000
def vat : Nat → Option LoopSpec
  | 5000003 => some ⟨[0, 1, 5], [], fun vals st k => vam [.own 0, .int .i64, .int .i64] [.dep tTxn 0] vals st (fun p q => vdp (p.2.1, p.2.2.1, q.1) (fun z => k .norm [.own 0, .int .i64 z.1, .int .i64 z.2.1] [.dep tTxn z.2.2 0]))
      (none)⟩
  | 5000017 => some ⟨[0, 1, 5], [], fun vals st k => vam [.own 0, .int .i64, .int .i64] [.dep tTxn 0] vals st (fun p q => vdm (p.2.1, p.2.2.1, q.1) (fun z => k .norm [.own 0, .int .i64 z.1, .int .i64 z.2.1] [.dep tTxn z.2.2 0]))
      (none)⟩
  | 5000015 => some ⟨[0, 1, 5], [], fun vals st k => vam [.own 0, .int .i64, .int .i64] [.dep tTxn 0] vals st (fun p q => vdl (p.2.1, p.2.2.1, q.1) (fun z => k .norm [.own 0, .int .i64 z.1, .int .i64 z.2.1] [.dep tTxn z.2.2 0]))
      (none)⟩
  | 5000011 => some ⟨[0, 1, 5], [], fun vals st k => vam [.own 0, .int .i64, .int .i64] [.dep tTxn 0] vals st (fun p q => vdq (p.2.1, p.2.2.1, q.1) (fun z => k .norm [.own 0, .int .i64 z.1, .int .i64 z.2.1] [.dep tTxn z.2.2 0]))
      (none)⟩
  | 5000009 => some ⟨[0, 1, 5], [], fun vals st k => vam [.own 0, .int .i64, .int .i64] [.dep tTxn 0] vals st (fun p q => vdt (p.2.1, p.2.2.1, q.1) (fun z => k .norm [.own 0, .int .i64 z.1, .int .i64 z.2.1] [.dep tTxn z.2.2 0]))
      (none)⟩
  | 5000007 => some ⟨[0, 1, 5], [], fun vals st k => vam [.own 0, .int .i64, .int .i64] [.dep tTxn 0] vals st (fun p q => vdv (p.2.1, p.2.2.1, q.1) (fun z => k .norm [.own 0, .int .i64 z.1, .int .i64 z.2.1] [.dep tTxn z.2.2 0]))
      (none)⟩
  | 5000005 => some ⟨[0, 1, 5], [], fun vals st k => vam [.own 0, .int .i64, .int .i64] [.dep tTxn 0] vals st (fun p q => vdu (p.2.1, p.2.2.1, q.1) (fun z => k .norm [.own 0, .int .i64 z.1, .int .i64 z.2.1] [.dep tTxn z.2.2 0]))
      (none)⟩
  | 0 => some ⟨[0, 1, 5], [], fun vals st k => vam [.own 0, .int .i64, .int .i64] [.dep tTxn 0] vals st (fun p q => vah vji Fuel (p.2.1, p.2.2.1, q.1) (fun z => k (.exit 0) [.own 0, .int .i64 z.1, .int .i64 z.2.1] [.dep tTxn z.2.2 0]))
      (none)⟩
  | _ => none
def vnm : (Int × Int × (List dTxn)) → List AV := (fun x => [.own 0, .int .i64 x.1, .int .i64 x.2.1])
def vnp : (Int × Int × (List dTxn)) → St := (fun x => [.dep tTxn x.2.2 0])
def vgu : (Int × Int × (List dTxn)) → Out × List AV × St := (fun z => (.norm, [.own 0, .int .i64 z.1, .int .i64 z.2.1], [.dep tTxn z.2.2 0]))
theorem vxk (x : (Int × Int × (List dTxn))) : exec G76 ⟨1, 72, vat⟩ (vad Try.f136 5000003) (va5 ⟨1, 72, vat⟩ [0, 1, 5] []) (va3 (va0 72) [0, 1, 5] (vnm x)) (vnp x) = vdp x (fun z => some ⟨(vgu z).1, (vgu z).2.1, (vgu z).2.2⟩) := by
  kernel_rfl
theorem vym : ∀ sp, (vat 5000003) = some sp → vg5 G76 ⟨1, 72, vat⟩ sp (vad Try.f136 5000003) := by
  intro sp hsp vals st k r h
  cases hsp
  dsimp only at h
  rcases vai h with ⟨p, q, rfl, rfl, h⟩ | h
  · exact vbu vne vnm vnp vgu vxk (p.2.1, p.2.2.1, q.1) _ k r (fun z => rfl) h
  cases h
def vnk : (Int × Int × (List dTxn)) → List AV := (fun x => [.own 0, .int .i64 x.1, .int .i64 x.2.1])
def vpe : (Int × Int × (List dTxn)) → St := (fun x => [.dep tTxn x.2.2 0])
def vgh : (Int × Int × (List dTxn)) → Out × List AV × St := (fun z => (.norm, [.own 0, .int .i64 z.1, .int .i64 z.2.1], [.dep tTxn z.2.2 0]))
theorem vy5 (x : (Int × Int × (List dTxn))) : exec G76 ⟨1, 72, vat⟩ (vad Try.f136 5000017) (va5 ⟨1, 72, vat⟩ [0, 1, 5] []) (va3 (va0 72) [0, 1, 5] (vnk x)) (vpe x) = vdm x (fun z => some ⟨(vgh z).1, (vgh z).2.1, (vgh z).2.2⟩) := by
  kernel_rfl
theorem vxx : ∀ sp, (vat 5000017) = some sp → vg5 G76 ⟨1, 72, vat⟩ sp (vad Try.f136 5000017) := by
  intro sp hsp vals st k r h
  cases hsp
  dsimp only at h
  rcases vai h with ⟨p, q, rfl, rfl, h⟩ | h
  · exact vbu vos vnk vpe vgh vy5 (p.2.1, p.2.2.1, q.1) _ k r (fun z => rfl) h
  cases h
def vpb : (Int × Int × (List dTxn)) → List AV := (fun x => [.own 0, .int .i64 x.1, .int .i64 x.2.1])
def vo0 : (Int × Int × (List dTxn)) → St := (fun x => [.dep tTxn x.2.2 0])
def vf7 : (Int × Int × (List dTxn)) → Out × List AV × St := (fun z => (.norm, [.own 0, .int .i64 z.1, .int .i64 z.2.1], [.dep tTxn z.2.2 0]))
theorem vx0 (x : (Int × Int × (List dTxn))) : exec G76 ⟨1, 72, vat⟩ (vad Try.f136 5000015) (va5 ⟨1, 72, vat⟩ [0, 1, 5] []) (va3 (va0 72) [0, 1, 5] (vpb x)) (vo0 x) = vdl x (fun z => some ⟨(vf7 z).1, (vf7 z).2.1, (vf7 z).2.2⟩) := by
  kernel_rfl
theorem vxq : ∀ sp, (vat 5000015) = some sp → vg5 G76 ⟨1, 72, vat⟩ sp (vad Try.f136 5000015) := by
  intro sp hsp vals st k r h
  cases hsp
  dsimp only at h
  rcases vai h with ⟨p, q, rfl, rfl, h⟩ | h
  · exact vbu vo9 vpb vo0 vf7 vx0 (p.2.1, p.2.2.1, q.1) _ k r (fun z => rfl) h
  cases h
def vpf : (Int × Int × (List dTxn)) → List AV := (fun x => [.own 0, .int .i64 x.1, .int .i64 x.2.1])
def vof : (Int × Int × (List dTxn)) → St := (fun x => [.dep tTxn x.2.2 0])
def vf2 : (Int × Int × (List dTxn)) → Out × List AV × St := (fun z => (.norm, [.own 0, .int .i64 z.1, .int .i64 z.2.1], [.dep tTxn z.2.2 0]))
theorem vxj (x : (Int × Int × (List dTxn))) : exec G76 ⟨1, 72, vat⟩ (vad Try.f136 5000011) (va5 ⟨1, 72, vat⟩ [0, 1, 5] []) (va3 (va0 72) [0, 1, 5] (vpf x)) (vof x) = vdq x (fun z => some ⟨(vf2 z).1, (vf2 z).2.1, (vf2 z).2.2⟩) := by
  kernel_rfl
theorem vyr : ∀ sp, (vat 5000011) = some sp → vg5 G76 ⟨1, 72, vat⟩ sp (vad Try.f136 5000011) := by
  intro sp hsp vals st k r h
  cases hsp
  dsimp only at h
  rcases vai h with ⟨p, q, rfl, rfl, h⟩ | h
  · exact vbu vnx vpf vof vf2 vxj (p.2.1, p.2.2.1, q.1) _ k r (fun z => rfl) h
  cases h
def vo3 : (Int × Int × (List dTxn)) → List AV := (fun x => [.own 0, .int .i64 x.1, .int .i64 x.2.1])
def vnz : (Int × Int × (List dTxn)) → St := (fun x => [.dep tTxn x.2.2 0])
def vfz : (Int × Int × (List dTxn)) → Out × List AV × St := (fun z => (.norm, [.own 0, .int .i64 z.1, .int .i64 z.2.1], [.dep tTxn z.2.2 0]))
theorem vyf (x : (Int × Int × (List dTxn))) : exec G76 ⟨1, 72, vat⟩ (vad Try.f136 5000009) (va5 ⟨1, 72, vat⟩ [0, 1, 5] []) (va3 (va0 72) [0, 1, 5] (vo3 x)) (vnz x) = vdt x (fun z => some ⟨(vfz z).1, (vfz z).2.1, (vfz z).2.2⟩) := by
  kernel_rfl
theorem vyz : ∀ sp, (vat 5000009) = some sp → vg5 G76 ⟨1, 72, vat⟩ sp (vad Try.f136 5000009) := by
  intro sp hsp vals st k r h
  cases hsp
  dsimp only at h
  rcases vai h with ⟨p, q, rfl, rfl, h⟩ | h
  · exact vbu vn7 vo3 vnz vfz vyf (p.2.1, p.2.2.1, q.1) _ k r (fun z => rfl) h
  cases h
def vpa : (Int × Int × (List dTxn)) → List AV := (fun x => [.own 0, .int .i64 x.1, .int .i64 x.2.1])
def vo1 : (Int × Int × (List dTxn)) → St := (fun x => [.dep tTxn x.2.2 0])
def vf5 : (Int × Int × (List dTxn)) → Out × List AV × St := (fun z => (.norm, [.own 0, .int .i64 z.1, .int .i64 z.2.1], [.dep tTxn z.2.2 0]))
theorem vyi (x : (Int × Int × (List dTxn))) : exec G76 ⟨1, 72, vat⟩ (vad Try.f136 5000007) (va5 ⟨1, 72, vat⟩ [0, 1, 5] []) (va3 (va0 72) [0, 1, 5] (vpa x)) (vo1 x) = vdv x (fun z => some ⟨(vf5 z).1, (vf5 z).2.1, (vf5 z).2.2⟩) := by
  kernel_rfl
theorem vxm : ∀ sp, (vat 5000007) = some sp → vg5 G76 ⟨1, 72, vat⟩ sp (vad Try.f136 5000007) := by
  intro sp hsp vals st k r h
  cases hsp
  dsimp only at h
  rcases vai h with ⟨p, q, rfl, rfl, h⟩ | h
  · exact vbu vnj vpa vo1 vf5 vyi (p.2.1, p.2.2.1, q.1) _ k r (fun z => rfl) h
  cases h
def vnw : (Int × Int × (List dTxn)) → List AV := (fun x => [.own 0, .int .i64 x.1, .int .i64 x.2.1])
def vn0 : (Int × Int × (List dTxn)) → St := (fun x => [.dep tTxn x.2.2 0])
def vf4 : (Int × Int × (List dTxn)) → Out × List AV × St := (fun z => (.norm, [.own 0, .int .i64 z.1, .int .i64 z.2.1], [.dep tTxn z.2.2 0]))
theorem vy4 (x : (Int × Int × (List dTxn))) : exec G76 ⟨1, 72, vat⟩ (vad Try.f136 5000005) (va5 ⟨1, 72, vat⟩ [0, 1, 5] []) (va3 (va0 72) [0, 1, 5] (vnw x)) (vn0 x) = vdu x (fun z => some ⟨(vf4 z).1, (vf4 z).2.1, (vf4 z).2.2⟩) := by
  kernel_rfl
theorem vxn : ∀ sp, (vat 5000005) = some sp → vg5 G76 ⟨1, 72, vat⟩ sp (vad Try.f136 5000005) := by
  intro sp hsp vals st k r h
  cases hsp
  dsimp only at h
  rcases vai h with ⟨p, q, rfl, rfl, h⟩ | h
  · exact vbu voi vnw vn0 vf4 vy4 (p.2.1, p.2.2.1, q.1) _ k r (fun z => rfl) h
  cases h
def v9b : (Int × Int × (List dTxn)) → List AV := (fun x => [.own 0, .int .i64 x.1, .int .i64 x.2.1])
def v6p : (Int × Int × (List dTxn)) → St := (fun x => [.dep tTxn x.2.2 0])
def v20 : (Int × Int × (List dTxn)) → Out × List AV × St := (fun z => ((.exit 0), [.own 0, .int .i64 z.1, .int .i64 z.2.1], [.dep tTxn z.2.2 0]))
theorem wnc (x : (Int × Int × (List dTxn))) : exec G76 ⟨1, 72, vat⟩ (vad Try.f136 0) (va5 ⟨1, 72, vat⟩ [0, 1, 5] []) (va3 (va0 72) [0, 1, 5] (v9b x)) (v6p x) = vji x (Sum.elim (fun y => some ⟨.norm, v9b y, v6p y⟩) fun z => some ⟨(v20 z).1, (v20 z).2.1, (v20 z).2.2⟩) := by
  kernel_rfl
theorem wov : ∀ sp, (vat 0) = some sp → va8 G76 ⟨1, 72, vat⟩ sp (vad Try.f136 0) := by
  intro sp hsp vals st k r h
  cases hsp
  dsimp only at h
  rcases vai h with ⟨p, q, rfl, rfl, h⟩ | h
  · exact vaq wb4 v9b v6p v20 (fun z => by (intro h; cases h)) wnc Fuel (p.2.1, p.2.2.1, q.1) _ k r (fun z => rfl) h
  cases h
theorem w2o (a0 : Int) (a1 : (List dTxn)) : var G76 vat Try.f136 [.own 0, .int .i64 a0] [.dep tTxn a1 0] = vtq a0 a1 (fun (y : (Int × (List dTxn))) => some ⟨.ret, [.int .i64 y.1], [.dep tTxn y.2 0]⟩) := by rw [wly]; kernel_rfl
theorem wwm : vao G76 ⟨1, 72, vat⟩ (Try.f136.body.getD .skip) :=
  vaf (ids := [5000003, 5000017, 5000015, 5000011, 5000009, 5000007, 5000005, 0]) (by kernel_rfl) (by kernel_rfl) ⟨vym, ⟨vxx, ⟨vxq, ⟨vyr, ⟨vyz, ⟨vxm, ⟨vxn, ⟨wov, trivial⟩⟩⟩⟩⟩⟩⟩⟩
theorem vuu : val Try.prog 136 vhz := by
  refine told G76_ok follows Try.func136 (c := Try.f136.body.getD .skip) (by kernel_rfl) ?_
  intro args s k r hk
  unfold vhz at hk
  rcases vag hk with ⟨p, q, rfl, rfl⟩ | hk
  · exact ⟨vat, (wee p.2.1 q.1).map _, w2o p.2.1 q.1, wwm⟩
  cases hk
def G77 : Glob := G76.add 136 vhz
theorem G77_ok : GlobOk Try.prog G77 := G76_ok.add ⟨Try.f136, Try.func136, by kernel_rfl, by kernel_rfl⟩ vuu
def vsy : Nat → Option LoopSpec
  | _ => none
theorem w2m (a0 : Int) (a1 : Int) (a2 : Int) (a3 : (List vac)) (a4 : (List dTxn)) (a5 : (List dTxn)) : var G77 vsy Try.f135 [.agg [.own 0, .own 1, .own 2, .int .i64 a0, .int .i64 a1], .int .i64 a2] [.arr tVersion a3, .dep tTxn a4 0, .dep tTxn a5 0] = vzj a0 a1 a2 a3 a4 a5 (fun (y : q41T) => some ⟨.ret, [.int .i64 y.1], [.arr tVersion y.2.1, .dep tTxn y.2.2.1 0, .dep tTxn y.2.2.2 0]⟩) := by rw [wf5]; kernel_rfl
theorem wxb : vao G77 ⟨3, 18, vsy⟩ (Try.f135.body.getD .skip) :=
  vaf (ids := []) (by kernel_rfl) (by kernel_rfl) trivial
theorem vus : val Try.prog 135 vh1 := by
  refine told G77_ok follows Try.func135 (c := Try.f135.body.getD .skip) (by kernel_rfl) ?_
  intro args s k r hk
  unfold vh1 at hk
  rcases vag hk with ⟨p, q, rfl, rfl⟩ | hk
  · exact ⟨vsy, (wtp p.1.2.2.2.1 p.1.2.2.2.2.1 p.2.1 q.1 q.2.1 q.2.2.1).map _, w2m p.1.2.2.2.1 p.1.2.2.2.2.1 p.2.1 q.1 q.2.1 q.2.2.1, wxb⟩
  cases hk
def G78 : Glob := G77.add 135 vh1
theorem G78_ok : GlobOk Try.prog G78 := G77_ok.add ⟨Try.f135, Try.func135, by kernel_rfl, by kernel_rfl⟩ vus
def vsu : Nat → Option LoopSpec
  | _ => none
theorem wy4 (a0 : Int) (a1 : Int) (a2 : Int) (a3 : (List vac)) (a4 : (List dTxn)) (a5 : (List dTxn)) (a6 : (List dTxn)) : var G78 vsu Try.f55 [.agg [.own 0, .own 1, .own 2, .int .i64 a0, .int .i64 a1, .own 3], .int .i64 a2] [.arr tVersion a3, .dep tTxn a4 0, .dep tTxn a5 0, .dep tTxn a6 0] = vn3 a0 a1 a2 a3 a4 a5 a6 (fun (y : q40T) => some ⟨.ret, [.int .i64 y.1], [.arr tVersion y.2.1, .dep tTxn y.2.2.1 0, .dep tTxn y.2.2.2.1 0, .dep tTxn y.2.2.2.2 0]⟩) := by rw [whh]; kernel_rfl
theorem w3v : vao G78 ⟨4, 14, vsu⟩ (Try.f55.body.getD .skip) :=
  vaf (ids := []) (by kernel_rfl) (by kernel_rfl) trivial
theorem vrm : val Try.prog 55 vfp := by
  refine told G78_ok follows Try.func55 (c := Try.f55.body.getD .skip) (by kernel_rfl) ?_
  intro args s k r hk
  unfold vfp at hk
  rcases vag hk with ⟨p, q, rfl, rfl⟩ | hk
  · exact ⟨vsu, (whc p.1.2.2.2.1 p.1.2.2.2.2.1 p.2.1 q.1 q.2.1 q.2.2.1 q.2.2.2.1).map _, wy4 p.1.2.2.2.1 p.1.2.2.2.2.1 p.2.1 q.1 q.2.1 q.2.2.1 q.2.2.2.1, w3v⟩
  cases hk
def G79 : Glob := G78.add 55 vfp
theorem G79_ok : GlobOk Try.prog G79 := G78_ok.add ⟨Try.f55, Try.func55, by kernel_rfl, by kernel_rfl⟩ vrm
def vfo : Nat → Option LoopSpec
  | 0 => some ⟨[0, 1, 4, 5], [], fun vals st k => vam [.lst tVersion, .int .i64, .int .i64, .int .i64] [] vals st (fun p q => vah vj6 Fuel (p.1, p.2.1, p.2.2.1, p.2.2.2.1) (Sum.elim (fun z => k .ret [.lst tVersion z.1, .int .i64 z.2.1, .int .i64 z.2.2.1, .int .i64 z.2.2.2] []) (fun z => k (.exit 0) [.lst tVersion z.1, .int .i64 z.2.1, .int .i64 z.2.2.1, .int .i64 z.2.2.2] [])))
      (none)⟩
  | 2000004 => some ⟨[0, 2, 4, 6, 8, 10, 13, 14], [], fun _ _ _ => none⟩
  | 2000007 => some ⟨[0, 2, 4, 6, 8, 10, 13, 14], [], fun _ _ _ => none⟩
  | _ => none
def v7e : q15T → List AV := (fun x => [.lst tVersion x.1, .int .i64 x.2.1, .int .i64 x.2.2.1, .int .i64 x.2.2.2])
def v8k : q15T → St := (fun x => [])
def v1h : (q15T ⊕ q15T) → Out × List AV × St := (Sum.elim (fun z => (.ret, [.lst tVersion z.1, .int .i64 z.2.1, .int .i64 z.2.2.1, .int .i64 z.2.2.2], [])) (fun z => ((.exit 0), [.lst tVersion z.1, .int .i64 z.2.1, .int .i64 z.2.2.1, .int .i64 z.2.2.2], [])))
theorem wp4 (x : q15T) : exec G79 ⟨0, 53, vfo⟩ (vad Try.f193 0) (va5 ⟨0, 53, vfo⟩ [0, 1, 4, 5] []) (va3 (va0 53) [0, 1, 4, 5] (v7e x)) (v8k x) = vj6 x (Sum.elim (fun y => some ⟨.norm, v7e y, v8k y⟩) fun z => some ⟨(v1h z).1, (v1h z).2.1, (v1h z).2.2⟩) := by
  kernel_rfl
theorem wsf : ∀ sp, (vfo 0) = some sp → va8 G79 ⟨0, 53, vfo⟩ sp (vad Try.f193 0) := by
  intro sp hsp vals st k r h
  cases hsp
  dsimp only at h
  rcases vai h with ⟨p, q, rfl, rfl, h⟩ | h
  · exact vaq wbp v7e v8k v1h (fun z => by rcases z with z | z <;> (intro h; cases h)) wp4 Fuel (p.1, p.2.1, p.2.2.1, p.2.2.2.1) _ k r (fun z => by rcases z with z | z <;> rfl) h
  cases h
theorem wy2 (a0 : (List vac)) (a1 : Int) : var G79 vfo Try.f193 [.lst tVersion a0, .int .i64 a1] [] = vvt a0 a1 (fun (y : Int) => some ⟨.ret, [.int .i64 y], []⟩) := by rw [wl7]; kernel_rfl
theorem wyn : vao G79 ⟨0, 53, vfo⟩ (Try.f193.body.getD .skip) :=
  vaf (ids := [0]) (by kernel_rfl) (by kernel_rfl) ⟨wsf, trivial⟩
theorem w1c : val Try.prog 193 wjg := by
  refine told G79_ok follows Try.func193 (c := Try.f193.body.getD .skip) (by kernel_rfl) ?_
  intro args s k r hk
  unfold wjg at hk
  rcases vag hk with ⟨p, q, rfl, rfl⟩ | hk
  · exact ⟨vfo, (wtq p.1 p.2.1).map _, wy2 p.1 p.2.1, wyn⟩
  cases hk
def G80 : Glob := G79.add 193 wjg
theorem G80_ok : GlobOk Try.prog G80 := G79_ok.add ⟨Try.f193, Try.func193, by kernel_rfl, by kernel_rfl⟩ w1c
def ve6 : Nat → Option LoopSpec
  | 0 => some ⟨[0, 1, 4, 5], [], fun vals st k => vam [.lst tRange, .int .i64, .int .i64, .int .i64] [] vals st (fun p q => vah vkt Fuel (p.1, p.2.1, p.2.2.1, p.2.2.2.1) (Sum.elim (fun z => k .ret [.lst tRange z.1, .int .i64 z.2.1, .int .i64 z.2.2.1, .int .i64 z.2.2.2] []) (fun z => k (.exit 0) [.lst tRange z.1, .int .i64 z.2.1, .int .i64 z.2.2.1, .int .i64 z.2.2.2] [])))
      (none)⟩
  | 2000004 => some ⟨[0, 2, 4, 6, 8, 10, 13, 14], [], fun _ _ _ => none⟩
  | 2000007 => some ⟨[0, 2, 4, 6, 8, 10, 13, 14], [], fun _ _ _ => none⟩
  | _ => none
def v7q : q4T → List AV := (fun x => [.lst tRange x.1, .int .i64 x.2.1, .int .i64 x.2.2.1, .int .i64 x.2.2.2])
def v7w : q4T → St := (fun x => [])
def v2s : (q4T ⊕ q4T) → Out × List AV × St := (Sum.elim (fun z => (.ret, [.lst tRange z.1, .int .i64 z.2.1, .int .i64 z.2.2.1, .int .i64 z.2.2.2], [])) (fun z => ((.exit 0), [.lst tRange z.1, .int .i64 z.2.1, .int .i64 z.2.2.1, .int .i64 z.2.2.2], [])))
theorem wo5 (x : q4T) : exec G80 ⟨0, 33, ve6⟩ (vad Try.f194 0) (va5 ⟨0, 33, ve6⟩ [0, 1, 4, 5] []) (va3 (va0 33) [0, 1, 4, 5] (v7q x)) (v7w x) = vkt x (Sum.elim (fun y => some ⟨.norm, v7q y, v7w y⟩) fun z => some ⟨(v2s z).1, (v2s z).2.1, (v2s z).2.2⟩) := by
  kernel_rfl
theorem wn2 : ∀ sp, (ve6 0) = some sp → va8 G80 ⟨0, 33, ve6⟩ sp (vad Try.f194 0) := by
  intro sp hsp vals st k r h
  cases hsp
  dsimp only at h
  rcases vai h with ⟨p, q, rfl, rfl, h⟩ | h
  · exact vaq wcy v7q v7w v2s (fun z => by rcases z with z | z <;> (intro h; cases h)) wo5 Fuel (p.1, p.2.1, p.2.2.1, p.2.2.2.1) _ k r (fun z => by rcases z with z | z <;> rfl) h
  cases h
theorem wv1 (a0 : (List van)) (a1 : Int) : var G80 ve6 Try.f194 [.lst tRange a0, .int .i64 a1] [] = vtr a0 a1 (fun (y : Int) => some ⟨.ret, [.int .i64 y], []⟩) := by rw [wh5]; kernel_rfl
theorem wwl : vao G80 ⟨0, 33, ve6⟩ (Try.f194.body.getD .skip) :=
  vaf (ids := [0]) (by kernel_rfl) (by kernel_rfl) ⟨wn2, trivial⟩
theorem w0y : val Try.prog 194 whr := by
  refine told G80_ok follows Try.func194 (c := Try.f194.body.getD .skip) (by kernel_rfl) ?_
  intro args s k r hk
  unfold whr at hk
  rcases vag hk with ⟨p, q, rfl, rfl⟩ | hk
  · exact ⟨ve6, (wss p.1 p.2.1).map _, wv1 p.1 p.2.1, wwl⟩
  cases hk
def G81 : Glob := G80.add 194 whr
theorem G81_ok : GlobOk Try.prog G81 := G80_ok.add ⟨Try.f194, Try.func194, by kernel_rfl, by kernel_rfl⟩ w0y
def ve5 : Nat → Option LoopSpec
  | 0 => some ⟨[0, 1, 4, 5], [], fun vals st k => vam [.lst tWrite, .int .i64, .int .i64, .int .i64] [] vals st (fun p q => vah vjh Fuel (p.1, p.2.1, p.2.2.1, p.2.2.2.1) (Sum.elim (fun z => k .ret [.lst tWrite z.1, .int .i64 z.2.1, .int .i64 z.2.2.1, .int .i64 z.2.2.2] []) (fun z => k (.exit 0) [.lst tWrite z.1, .int .i64 z.2.1, .int .i64 z.2.2.1, .int .i64 z.2.2.2] [])))
      (none)⟩
  | 2000004 => some ⟨[0, 2, 4, 6, 8, 10, 13, 14], [], fun _ _ _ => none⟩
  | 2000007 => some ⟨[0, 2, 4, 6, 8, 10, 13, 14], [], fun _ _ _ => none⟩
  | _ => none
def v89 : q19T → List AV := (fun x => [.lst tWrite x.1, .int .i64 x.2.1, .int .i64 x.2.2.1, .int .i64 x.2.2.2])
def v9o : q19T → St := (fun x => [])
def v1k : (q19T ⊕ q19T) → Out × List AV × St := (Sum.elim (fun z => (.ret, [.lst tWrite z.1, .int .i64 z.2.1, .int .i64 z.2.2.1, .int .i64 z.2.2.2], [])) (fun z => ((.exit 0), [.lst tWrite z.1, .int .i64 z.2.1, .int .i64 z.2.2.1, .int .i64 z.2.2.2], [])))
theorem wot (x : q19T) : exec G81 ⟨0, 44, ve5⟩ (vad Try.f195 0) (va5 ⟨0, 44, ve5⟩ [0, 1, 4, 5] []) (va3 (va0 44) [0, 1, 4, 5] (v89 x)) (v9o x) = vjh x (Sum.elim (fun y => some ⟨.norm, v89 y, v9o y⟩) fun z => some ⟨(v1k z).1, (v1k z).2.1, (v1k z).2.2⟩) := by
  kernel_rfl
theorem wol : ∀ sp, (ve5 0) = some sp → va8 G81 ⟨0, 44, ve5⟩ sp (vad Try.f195 0) := by
  intro sp hsp vals st k r h
  cases hsp
  dsimp only at h
  rcases vai h with ⟨p, q, rfl, rfl, h⟩ | h
  · exact vaq wbq v89 v9o v1k (fun z => by rcases z with z | z <;> (intro h; cases h)) wot Fuel (p.1, p.2.1, p.2.2.1, p.2.2.2.1) _ k r (fun z => by rcases z with z | z <;> rfl) h
  cases h
theorem wxt (a0 : (List vaj)) (a1 : Int) : var G81 ve5 Try.f195 [.lst tWrite a0, .int .i64 a1] [] = vtm a0 a1 (fun (y : Int) => some ⟨.ret, [.int .i64 y], []⟩) := by rw [wle]; kernel_rfl
theorem w3j : vao G81 ⟨0, 44, ve5⟩ (Try.f195.body.getD .skip) :=
  vaf (ids := [0]) (by kernel_rfl) (by kernel_rfl) ⟨wol, trivial⟩
theorem w3o : val Try.prog 195 wjs := by
  refine told G81_ok follows Try.func195 (c := Try.f195.body.getD .skip) (by kernel_rfl) ?_
  intro args s k r hk
  unfold wjs at hk
  rcases vag hk with ⟨p, q, rfl, rfl⟩ | hk
  · exact ⟨ve5, (ws6 p.1 p.2.1).map _, wxt p.1 p.2.1, w3j⟩
  cases hk
def G82 : Glob := G81.add 195 wjs
theorem G82_ok : GlobOk Try.prog G82 := G81_ok.add ⟨Try.f195, Try.func195, by kernel_rfl, by kernel_rfl⟩ w3o
def ve4 : Nat → Option LoopSpec
  | 0 => some ⟨[0, 1, 4, 5], [], fun vals st k => vam [.lst tTxn, .int .i64, .int .i64, .int .i64] [] vals st (fun p q => vah vkw Fuel (p.1, p.2.1, p.2.2.1, p.2.2.2.1) (Sum.elim (fun z => k .ret [.lst tTxn z.1, .int .i64 z.2.1, .int .i64 z.2.2.1, .int .i64 z.2.2.2] []) (fun z => k (.exit 0) [.lst tTxn z.1, .int .i64 z.2.1, .int .i64 z.2.2.1, .int .i64 z.2.2.2] [])))
      (none)⟩
  | 2000025 => some ⟨[0, 2, 4, 6, 8, 10, 13, 14], [], fun _ _ _ => none⟩
  | _ => none
def v8d : q10T → List AV := (fun x => [.lst tTxn x.1, .int .i64 x.2.1, .int .i64 x.2.2.1, .int .i64 x.2.2.2])
def v7h : q10T → St := (fun x => [])
def v3m : (q10T ⊕ q10T) → Out × List AV × St := (Sum.elim (fun z => (.ret, [.lst tTxn z.1, .int .i64 z.2.1, .int .i64 z.2.2.1, .int .i64 z.2.2.2], [])) (fun z => ((.exit 0), [.lst tTxn z.1, .int .i64 z.2.1, .int .i64 z.2.2.1, .int .i64 z.2.2.2], [])))
theorem wra (x : q10T) : exec G82 ⟨0, 88, ve4⟩ (vad Try.f138 0) (va5 ⟨0, 88, ve4⟩ [0, 1, 4, 5] []) (va3 (va0 88) [0, 1, 4, 5] (v8d x)) (v7h x) = vkw x (Sum.elim (fun y => some ⟨.norm, v8d y, v7h y⟩) fun z => some ⟨(v3m z).1, (v3m z).2.1, (v3m z).2.2⟩) := by
  kernel_rfl
theorem wqp : ∀ sp, (ve4 0) = some sp → va8 G82 ⟨0, 88, ve4⟩ sp (vad Try.f138 0) := by
  intro sp hsp vals st k r h
  cases hsp
  dsimp only at h
  rcases vai h with ⟨p, q, rfl, rfl, h⟩ | h
  · exact vaq wba v8d v7h v3m (fun z => by rcases z with z | z <;> (intro h; cases h)) wra Fuel (p.1, p.2.1, p.2.2.1, p.2.2.2.1) _ k r (fun z => by rcases z with z | z <;> rfl) h
  cases h
theorem w0d (a0 : (List dTxn)) (a1 : Int) : var G82 ve4 Try.f138 [.lst tTxn a0, .int .i64 a1] [] = vre a0 a1 (fun (y : Int) => some ⟨.ret, [.int .i64 y], []⟩) := by rw [wjh]; kernel_rfl
theorem ww5 : vao G82 ⟨0, 88, ve4⟩ (Try.f138.body.getD .skip) :=
  vaf (ids := [0]) (by kernel_rfl) (by kernel_rfl) ⟨wqp, trivial⟩
theorem wwi : val Try.prog 138 wl2 := by
  refine told G82_ok follows Try.func138 (c := Try.f138.body.getD .skip) (by kernel_rfl) ?_
  intro args s k r hk
  unfold wl2 at hk
  rcases vag hk with ⟨p, q, rfl, rfl⟩ | hk
  · exact ⟨ve4, (wel p.1 p.2.1).map _, w0d p.1 p.2.1, ww5⟩
  cases hk
def G83 : Glob := G82.add 138 wl2
theorem G83_ok : GlobOk Try.prog G83 := G82_ok.add ⟨Try.f138, Try.func138, by kernel_rfl, by kernel_rfl⟩ wwi
def vr8 : Nat → Option LoopSpec
  | _ => none
theorem wy0 (a0 : (List vac)) (a1 : (List dTxn)) (a2 : (List dTxn)) (a3 : Int) (a4 : Int) (a5 : Int) : var G83 vr8 Try.f137 [.agg [.lst tVersion a0, .lst tTxn a1, .lst tTxn a2, .int .i64 a3, .int .i64 a4], .int .i64 a5] [] = v0o (a0, (a1, (a2, (a3, a4)))) a5 (fun (y : Int) => some ⟨.ret, [.int .i64 y], []⟩) := by rw [wma]; kernel_rfl
theorem wzc : vao G83 ⟨0, 24, vr8⟩ (Try.f137.body.getD .skip) :=
  vaf (ids := []) (by kernel_rfl) (by kernel_rfl) trivial
theorem wyz : val Try.prog 137 wg7 := by
  refine told G83_ok follows Try.func137 (c := Try.f137.body.getD .skip) (by kernel_rfl) ?_
  intro args s k r hk
  unfold wg7 at hk
  rcases vag hk with ⟨p, q, rfl, rfl⟩ | hk
  · exact ⟨vr8, (wtl (p.1.1, (p.1.2.1, (p.1.2.2.1, (p.1.2.2.2.1, p.1.2.2.2.2.1)))) p.2.1).map _, wy0 p.1.1 p.1.2.1 p.1.2.2.1 p.1.2.2.2.1 p.1.2.2.2.2.1 p.2.1, wzc⟩
  cases hk
def G84 : Glob := G83.add 137 wg7
theorem G84_ok : GlobOk Try.prog G84 := G83_ok.add ⟨Try.f137, Try.func137, by kernel_rfl, by kernel_rfl⟩ wyz
def vsj : Nat → Option LoopSpec
  | _ => none
theorem wwj (a0 : (List vac)) (a1 : (List dTxn)) (a2 : (List dTxn)) (a3 : Int) (a4 : Int) (a5 : (List dTxn)) (a6 : Int) : var G84 vsj Try.f56 [.agg [.lst tVersion a0, .lst tTxn a1, .lst tTxn a2, .int .i64 a3, .int .i64 a4, .lst tTxn a5], .int .i64 a6] [] = vom ((a0, (a1, (a2, (a3, a4)))), a5) a6 (fun (y : Int) => some ⟨.ret, [.int .i64 y], []⟩) := by rw [wjv]; kernel_rfl
theorem w07 : vao G84 ⟨0, 18, vsj⟩ (Try.f56.body.getD .skip) :=
  vaf (ids := []) (by kernel_rfl) (by kernel_rfl) trivial
theorem wv6 : val Try.prog 56 wmq := by
  refine told G84_ok follows Try.func56 (c := Try.f56.body.getD .skip) (by kernel_rfl) ?_
  intro args s k r hk
  unfold wmq at hk
  rcases vag hk with ⟨p, q, rfl, rfl⟩ | hk
  · exact ⟨vsj, (wf6 ((p.1.1, (p.1.2.1, (p.1.2.2.1, (p.1.2.2.2.1, p.1.2.2.2.2.1)))), p.1.2.2.2.2.2.1) p.2.1).map _, wwj p.1.1 p.1.2.1 p.1.2.2.1 p.1.2.2.2.1 p.1.2.2.2.2.1 p.1.2.2.2.2.2.1 p.2.1, w07⟩
  cases hk
def G85 : Glob := G84.add 56 wmq
theorem G85_ok : GlobOk Try.prog G85 := G84_ok.add ⟨Try.f56, Try.func56, by kernel_rfl, by kernel_rfl⟩ wv6
def vbz : Nat → Option LoopSpec
  | 5000027 => some ⟨[2, 8, 12], [], fun vals st k => vam [.bool, .bp 0 0, .int .i64] [.box [.own 1, .own 2, .own 3, .int .i64, .int .i64, .own 4], .arr tVersion, .dep tTxn 0, .dep tTxn 0, .dep tTxn 0] vals st (fun p q => vc4 (p.1, p.2.2.1, q.1.2.2.2.1, q.1.2.2.2.2.1, q.2.1, q.2.2.1, q.2.2.2.1, q.2.2.2.2.1) (fun z => k .ret [.bool z.1, .bp 0 0, .int .i64 z.2.1] [.box [.own 1, .own 2, .own 3, .int .i64 z.2.2.1, .int .i64 z.2.2.2.1, .own 4], .arr tVersion z.2.2.2.2.1, .dep tTxn z.2.2.2.2.2.1 0, .dep tTxn z.2.2.2.2.2.2.1 0, .dep tTxn z.2.2.2.2.2.2.2 0]))
      (none)⟩
  | 5000016 => some ⟨[1, 2, 4, 5, 6, 8], [], fun vals st k => vam [.bp 0 0, .bool, .bp 1 0, .int .i64, .int .i64, .bp 2 0] [.box [.lst tVersion, .lst tTxn, .lst tTxn, .int .i64, .int .i64, .lst tTxn], .box [.own 3, .own 4, .own 5, .int .i64, .int .i64, .own 6], .box [.own 7, .own 8, .own 9, .int .i64, .int .i64, .own 10], .arr tVersion, .arr tTxn, .arr tTxn, .arr tTxn, .arr tVersion, .dep tTxn 0, .dep tTxn 0, .dep tTxn 0] vals st (fun p q => vcy (p.2.1, p.2.2.2.1, p.2.2.2.2.1, q.1.1, q.1.2.1, q.1.2.2.1, q.1.2.2.2.1, q.1.2.2.2.2.1, q.1.2.2.2.2.2.1, q.2.1.2.2.2.1, q.2.1.2.2.2.2.1, q.2.2.1.2.2.2.1, q.2.2.1.2.2.2.2.1, q.2.2.2.1, q.2.2.2.2.1, q.2.2.2.2.2.1, q.2.2.2.2.2.2.1, q.2.2.2.2.2.2.2.1, q.2.2.2.2.2.2.2.2.1, q.2.2.2.2.2.2.2.2.2.1, q.2.2.2.2.2.2.2.2.2.2.1) (Sum.elim (fun z => k .ret [.bp 0 0, .bool z.1, .bp 1 0, .int .i64 z.2.1, .int .i64 z.2.2.1, .bp 2 0] [.box [.lst tVersion z.2.2.2.1, .lst tTxn z.2.2.2.2.1, .lst tTxn z.2.2.2.2.2.1, .int .i64 z.2.2.2.2.2.2.1, .int .i64 z.2.2.2.2.2.2.2.1, .lst tTxn z.2.2.2.2.2.2.2.2.1], .box [.own 3, .own 4, .own 5, .int .i64 z.2.2.2.2.2.2.2.2.2.1, .int .i64 z.2.2.2.2.2.2.2.2.2.2.1, .own 6], .box [.own 7, .own 8, .own 9, .int .i64 z.2.2.2.2.2.2.2.2.2.2.2.1, .int .i64 z.2.2.2.2.2.2.2.2.2.2.2.2.1, .own 10], .arr tVersion z.2.2.2.2.2.2.2.2.2.2.2.2.2.1, .arr tTxn z.2.2.2.2.2.2.2.2.2.2.2.2.2.2.1, .arr tTxn z.2.2.2.2.2.2.2.2.2.2.2.2.2.2.2.1, .arr tTxn z.2.2.2.2.2.2.2.2.2.2.2.2.2.2.2.2.1, .arr tVersion z.2.2.2.2.2.2.2.2.2.2.2.2.2.2.2.2.2.1, .dep tTxn z.2.2.2.2.2.2.2.2.2.2.2.2.2.2.2.2.2.2.1 0, .dep tTxn z.2.2.2.2.2.2.2.2.2.2.2.2.2.2.2.2.2.2.2.1 0, .dep tTxn z.2.2.2.2.2.2.2.2.2.2.2.2.2.2.2.2.2.2.2.2 0]) (fun z => k .ret [.dead, .bool z.1, .dead, .dead, .dead, .bp 0 0] [.box [.own 1, .own 2, .own 3, .int .i64 z.2.1, .int .i64 z.2.2.1, .own 4], .arr tVersion z.2.2.2.1, .dep tTxn z.2.2.2.2.1 0, .dep tTxn z.2.2.2.2.2.1 0, .dep tTxn z.2.2.2.2.2.2 0])))
      (none)⟩
  | 5000010 => some ⟨[1, 2, 4, 5, 6, 7, 8, 9, 10], [], fun vals st k => vam [.bp 0 0, .bool, .bp 1 0, .int .i64, .int .i64, .bp 2 0, .bp 3 0, .int .i64, .int .i64] [.box [.lst tVersion, .lst tTxn, .lst tTxn, .int .i64, .int .i64, .lst tTxn], .box [.own 4, .own 5, .own 6, .int .i64, .int .i64, .own 7], .box [.own 8, .own 9, .own 10, .int .i64, .int .i64, .own 11], .box [.own 12, .own 13, .own 14, .int .i64, .int .i64, .own 15], .arr tVersion, .arr tTxn, .arr tTxn, .arr tTxn, .arr tVersion, .dep tTxn 0, .dep tTxn 0, .dep tTxn 0, .arr tVersion, .dep tTxn 0, .dep tTxn 0, .dep tTxn 0] vals st (fun p q => vc6 (p.2.1, p.2.2.2.1, p.2.2.2.2.1, p.2.2.2.2.2.2.2.1, p.2.2.2.2.2.2.2.2.1, q.1.1, q.1.2.1, q.1.2.2.1, q.1.2.2.2.1, q.1.2.2.2.2.1, q.1.2.2.2.2.2.1, q.2.1.2.2.2.1, q.2.1.2.2.2.2.1, q.2.2.1.2.2.2.1, q.2.2.1.2.2.2.2.1, q.2.2.2.1.2.2.2.1, q.2.2.2.1.2.2.2.2.1, q.2.2.2.2.1, q.2.2.2.2.2.1, q.2.2.2.2.2.2.1, q.2.2.2.2.2.2.2.1, q.2.2.2.2.2.2.2.2.1, q.2.2.2.2.2.2.2.2.2.1, q.2.2.2.2.2.2.2.2.2.2.1, q.2.2.2.2.2.2.2.2.2.2.2.1, q.2.2.2.2.2.2.2.2.2.2.2.2.1, q.2.2.2.2.2.2.2.2.2.2.2.2.2.1, q.2.2.2.2.2.2.2.2.2.2.2.2.2.2.1, q.2.2.2.2.2.2.2.2.2.2.2.2.2.2.2.1) (Sum.elim (fun z => k .ret [.bp 0 0, .bool z.1, .bp 1 0, .int .i64 z.2.1, .int .i64 z.2.2.1, .bp 2 0, .bp 3 0, .int .i64 z.2.2.2.1, .int .i64 z.2.2.2.2.1] [.box [.lst tVersion z.2.2.2.2.2.1, .lst tTxn z.2.2.2.2.2.2.1, .lst tTxn z.2.2.2.2.2.2.2.1, .int .i64 z.2.2.2.2.2.2.2.2.1, .int .i64 z.2.2.2.2.2.2.2.2.2.1, .lst tTxn z.2.2.2.2.2.2.2.2.2.2.1], .box [.own 4, .own 5, .own 6, .int .i64 z.2.2.2.2.2.2.2.2.2.2.2.1, .int .i64 z.2.2.2.2.2.2.2.2.2.2.2.2.1, .own 7], .box [.own 8, .own 9, .own 10, .int .i64 z.2.2.2.2.2.2.2.2.2.2.2.2.2.1, .int .i64 z.2.2.2.2.2.2.2.2.2.2.2.2.2.2.1, .own 11], .box [.own 12, .own 13, .own 14, .int .i64 z.2.2.2.2.2.2.2.2.2.2.2.2.2.2.2.1, .int .i64 z.2.2.2.2.2.2.2.2.2.2.2.2.2.2.2.2.1, .own 15], .arr tVersion z.2.2.2.2.2.2.2.2.2.2.2.2.2.2.2.2.2.1, .arr tTxn z.2.2.2.2.2.2.2.2.2.2.2.2.2.2.2.2.2.2.1, .arr tTxn z.2.2.2.2.2.2.2.2.2.2.2.2.2.2.2.2.2.2.2.1, .arr tTxn z.2.2.2.2.2.2.2.2.2.2.2.2.2.2.2.2.2.2.2.2.1, .arr tVersion z.2.2.2.2.2.2.2.2.2.2.2.2.2.2.2.2.2.2.2.2.2.1, .dep tTxn z.2.2.2.2.2.2.2.2.2.2.2.2.2.2.2.2.2.2.2.2.2.2.1 0, .dep tTxn z.2.2.2.2.2.2.2.2.2.2.2.2.2.2.2.2.2.2.2.2.2.2.2.1 0, .dep tTxn z.2.2.2.2.2.2.2.2.2.2.2.2.2.2.2.2.2.2.2.2.2.2.2.2.1 0, .arr tVersion z.2.2.2.2.2.2.2.2.2.2.2.2.2.2.2.2.2.2.2.2.2.2.2.2.2.1, .dep tTxn z.2.2.2.2.2.2.2.2.2.2.2.2.2.2.2.2.2.2.2.2.2.2.2.2.2.2.1 0, .dep tTxn z.2.2.2.2.2.2.2.2.2.2.2.2.2.2.2.2.2.2.2.2.2.2.2.2.2.2.2.1 0, .dep tTxn z.2.2.2.2.2.2.2.2.2.2.2.2.2.2.2.2.2.2.2.2.2.2.2.2.2.2.2.2 0]) (Sum.elim (fun z => k .ret [.bp 0 0, .bool z.1, .bp 1 0, .int .i64 z.2.1, .int .i64 z.2.2.1, .dead, .bp 2 0, .dead, .dead] [.box [.lst tVersion z.2.2.2.1, .lst tTxn z.2.2.2.2.1, .lst tTxn z.2.2.2.2.2.1, .int .i64 z.2.2.2.2.2.2.1, .int .i64 z.2.2.2.2.2.2.2.1, .lst tTxn z.2.2.2.2.2.2.2.2.1], .box [.own 3, .own 4, .own 5, .int .i64 z.2.2.2.2.2.2.2.2.2.1, .int .i64 z.2.2.2.2.2.2.2.2.2.2.1, .own 6], .box [.own 7, .own 8, .own 9, .int .i64 z.2.2.2.2.2.2.2.2.2.2.2.1, .int .i64 z.2.2.2.2.2.2.2.2.2.2.2.2.1, .own 10], .arr tVersion z.2.2.2.2.2.2.2.2.2.2.2.2.2.1, .arr tTxn z.2.2.2.2.2.2.2.2.2.2.2.2.2.2.1, .arr tTxn z.2.2.2.2.2.2.2.2.2.2.2.2.2.2.2.1, .arr tTxn z.2.2.2.2.2.2.2.2.2.2.2.2.2.2.2.2.1, .arr tVersion z.2.2.2.2.2.2.2.2.2.2.2.2.2.2.2.2.2.1, .dep tTxn z.2.2.2.2.2.2.2.2.2.2.2.2.2.2.2.2.2.2.1 0, .dep tTxn z.2.2.2.2.2.2.2.2.2.2.2.2.2.2.2.2.2.2.2.1 0, .dep tTxn z.2.2.2.2.2.2.2.2.2.2.2.2.2.2.2.2.2.2.2.2 0]) (fun z => k .ret [.dead, .bool z.1, .dead, .dead, .dead, .dead, .bp 0 0, .dead, .dead] [.box [.own 1, .own 2, .own 3, .int .i64 z.2.1, .int .i64 z.2.2.1, .own 4], .arr tVersion z.2.2.2.1, .dep tTxn z.2.2.2.2.1 0, .dep tTxn z.2.2.2.2.2.1 0, .dep tTxn z.2.2.2.2.2.2 0]))))
      (none)⟩
  | _ => none
def vnu : q35T → List AV := (fun x => [.bool x.1, .bp 0 0, .int .i64 x.2.1])
def vns : q35T → St := (fun x => [.box [.own 1, .own 2, .own 3, .int .i64 x.2.2.1, .int .i64 x.2.2.2.1, .own 4], .arr tVersion x.2.2.2.2.1, .dep tTxn x.2.2.2.2.2.1 0, .dep tTxn x.2.2.2.2.2.2.1 0, .dep tTxn x.2.2.2.2.2.2.2 0])
def vf6 : q35T → Out × List AV × St := (fun z => (.ret, [.bool z.1, .bp 0 0, .int .i64 z.2.1], [.box [.own 1, .own 2, .own 3, .int .i64 z.2.2.1, .int .i64 z.2.2.2.1, .own 4], .arr tVersion z.2.2.2.2.1, .dep tTxn z.2.2.2.2.2.1 0, .dep tTxn z.2.2.2.2.2.2.1 0, .dep tTxn z.2.2.2.2.2.2.2 0]))
theorem vxu (x : q35T) : exec G85 ⟨0, 117, vbz⟩ (vad Try.f7 5000027) (va5 ⟨0, 117, vbz⟩ [2, 8, 12] []) (va3 (va0 117) [2, 8, 12] (vnu x)) (vns x) = vc4 x (fun z => some ⟨(vf6 z).1, (vf6 z).2.1, (vf6 z).2.2⟩) := by
  kernel_rfl
theorem vxv : ∀ sp, (vbz 5000027) = some sp → vg5 G85 ⟨0, 117, vbz⟩ sp (vad Try.f7 5000027) := by
  intro sp hsp vals st k r h
  cases hsp
  dsimp only at h
  rcases vai h with ⟨p, q, rfl, rfl, h⟩ | h
  · exact vbu vor vnu vns vf6 vxu (p.1, p.2.2.1, q.1.2.2.2.1, q.1.2.2.2.2.1, q.2.1, q.2.2.1, q.2.2.2.1, q.2.2.2.2.1) _ k r (fun z => rfl) h
  cases h
def vny : q34T → List AV := (fun x => [.bp 0 0, .bool x.1, .bp 1 0, .int .i64 x.2.1, .int .i64 x.2.2.1, .bp 2 0])
def vnr : q34T → St := (fun x => [.box [.lst tVersion x.2.2.2.1, .lst tTxn x.2.2.2.2.1, .lst tTxn x.2.2.2.2.2.1, .int .i64 x.2.2.2.2.2.2.1, .int .i64 x.2.2.2.2.2.2.2.1, .lst tTxn x.2.2.2.2.2.2.2.2.1], .box [.own 3, .own 4, .own 5, .int .i64 x.2.2.2.2.2.2.2.2.2.1, .int .i64 x.2.2.2.2.2.2.2.2.2.2.1, .own 6], .box [.own 7, .own 8, .own 9, .int .i64 x.2.2.2.2.2.2.2.2.2.2.2.1, .int .i64 x.2.2.2.2.2.2.2.2.2.2.2.2.1, .own 10], .arr tVersion x.2.2.2.2.2.2.2.2.2.2.2.2.2.1, .arr tTxn x.2.2.2.2.2.2.2.2.2.2.2.2.2.2.1, .arr tTxn x.2.2.2.2.2.2.2.2.2.2.2.2.2.2.2.1, .arr tTxn x.2.2.2.2.2.2.2.2.2.2.2.2.2.2.2.2.1, .arr tVersion x.2.2.2.2.2.2.2.2.2.2.2.2.2.2.2.2.2.1, .dep tTxn x.2.2.2.2.2.2.2.2.2.2.2.2.2.2.2.2.2.2.1 0, .dep tTxn x.2.2.2.2.2.2.2.2.2.2.2.2.2.2.2.2.2.2.2.1 0, .dep tTxn x.2.2.2.2.2.2.2.2.2.2.2.2.2.2.2.2.2.2.2.2 0])
def vgb : (q34T ⊕ q31T) → Out × List AV × St := (Sum.elim (fun z => (.ret, [.bp 0 0, .bool z.1, .bp 1 0, .int .i64 z.2.1, .int .i64 z.2.2.1, .bp 2 0], [.box [.lst tVersion z.2.2.2.1, .lst tTxn z.2.2.2.2.1, .lst tTxn z.2.2.2.2.2.1, .int .i64 z.2.2.2.2.2.2.1, .int .i64 z.2.2.2.2.2.2.2.1, .lst tTxn z.2.2.2.2.2.2.2.2.1], .box [.own 3, .own 4, .own 5, .int .i64 z.2.2.2.2.2.2.2.2.2.1, .int .i64 z.2.2.2.2.2.2.2.2.2.2.1, .own 6], .box [.own 7, .own 8, .own 9, .int .i64 z.2.2.2.2.2.2.2.2.2.2.2.1, .int .i64 z.2.2.2.2.2.2.2.2.2.2.2.2.1, .own 10], .arr tVersion z.2.2.2.2.2.2.2.2.2.2.2.2.2.1, .arr tTxn z.2.2.2.2.2.2.2.2.2.2.2.2.2.2.1, .arr tTxn z.2.2.2.2.2.2.2.2.2.2.2.2.2.2.2.1, .arr tTxn z.2.2.2.2.2.2.2.2.2.2.2.2.2.2.2.2.1, .arr tVersion z.2.2.2.2.2.2.2.2.2.2.2.2.2.2.2.2.2.1, .dep tTxn z.2.2.2.2.2.2.2.2.2.2.2.2.2.2.2.2.2.2.1 0, .dep tTxn z.2.2.2.2.2.2.2.2.2.2.2.2.2.2.2.2.2.2.2.1 0, .dep tTxn z.2.2.2.2.2.2.2.2.2.2.2.2.2.2.2.2.2.2.2.2 0])) (fun z => (.ret, [.dead, .bool z.1, .dead, .dead, .dead, .bp 0 0], [.box [.own 1, .own 2, .own 3, .int .i64 z.2.1, .int .i64 z.2.2.1, .own 4], .arr tVersion z.2.2.2.1, .dep tTxn z.2.2.2.2.1 0, .dep tTxn z.2.2.2.2.2.1 0, .dep tTxn z.2.2.2.2.2.2 0])))
theorem vyl (x : q34T) : exec G85 ⟨0, 117, vbz⟩ (vad Try.f7 5000016) (va5 ⟨0, 117, vbz⟩ [1, 2, 4, 5, 6, 8] []) (va3 (va0 117) [1, 2, 4, 5, 6, 8] (vny x)) (vnr x) = vcy x (fun z => some ⟨(vgb z).1, (vgb z).2.1, (vgb z).2.2⟩) := by
  kernel_rfl
theorem vxy : ∀ sp, (vbz 5000016) = some sp → vg5 G85 ⟨0, 117, vbz⟩ sp (vad Try.f7 5000016) := by
  intro sp hsp vals st k r h
  cases hsp
  dsimp only at h
  rcases vai h with ⟨p, q, rfl, rfl, h⟩ | h
  · exact vbu vn5 vny vnr vgb vyl (p.2.1, p.2.2.2.1, p.2.2.2.2.1, q.1.1, q.1.2.1, q.1.2.2.1, q.1.2.2.2.1, q.1.2.2.2.2.1, q.1.2.2.2.2.2.1, q.2.1.2.2.2.1, q.2.1.2.2.2.2.1, q.2.2.1.2.2.2.1, q.2.2.1.2.2.2.2.1, q.2.2.2.1, q.2.2.2.2.1, q.2.2.2.2.2.1, q.2.2.2.2.2.2.1, q.2.2.2.2.2.2.2.1, q.2.2.2.2.2.2.2.2.1, q.2.2.2.2.2.2.2.2.2.1, q.2.2.2.2.2.2.2.2.2.2.1) _ k r (fun z => by rcases z with z | z <;> rfl) h
  cases h
def vnq : q37T → List AV := (fun x => [.bp 0 0, .bool x.1, .bp 1 0, .int .i64 x.2.1, .int .i64 x.2.2.1, .bp 2 0, .bp 3 0, .int .i64 x.2.2.2.1, .int .i64 x.2.2.2.2.1])
def vn1 : q37T → St := (fun x => [.box [.lst tVersion x.2.2.2.2.2.1, .lst tTxn x.2.2.2.2.2.2.1, .lst tTxn x.2.2.2.2.2.2.2.1, .int .i64 x.2.2.2.2.2.2.2.2.1, .int .i64 x.2.2.2.2.2.2.2.2.2.1, .lst tTxn x.2.2.2.2.2.2.2.2.2.2.1], .box [.own 4, .own 5, .own 6, .int .i64 x.2.2.2.2.2.2.2.2.2.2.2.1, .int .i64 x.2.2.2.2.2.2.2.2.2.2.2.2.1, .own 7], .box [.own 8, .own 9, .own 10, .int .i64 x.2.2.2.2.2.2.2.2.2.2.2.2.2.1, .int .i64 x.2.2.2.2.2.2.2.2.2.2.2.2.2.2.1, .own 11], .box [.own 12, .own 13, .own 14, .int .i64 x.2.2.2.2.2.2.2.2.2.2.2.2.2.2.2.1, .int .i64 x.2.2.2.2.2.2.2.2.2.2.2.2.2.2.2.2.1, .own 15], .arr tVersion x.2.2.2.2.2.2.2.2.2.2.2.2.2.2.2.2.2.1, .arr tTxn x.2.2.2.2.2.2.2.2.2.2.2.2.2.2.2.2.2.2.1, .arr tTxn x.2.2.2.2.2.2.2.2.2.2.2.2.2.2.2.2.2.2.2.1, .arr tTxn x.2.2.2.2.2.2.2.2.2.2.2.2.2.2.2.2.2.2.2.2.1, .arr tVersion x.2.2.2.2.2.2.2.2.2.2.2.2.2.2.2.2.2.2.2.2.2.1, .dep tTxn x.2.2.2.2.2.2.2.2.2.2.2.2.2.2.2.2.2.2.2.2.2.2.1 0, .dep tTxn x.2.2.2.2.2.2.2.2.2.2.2.2.2.2.2.2.2.2.2.2.2.2.2.1 0, .dep tTxn x.2.2.2.2.2.2.2.2.2.2.2.2.2.2.2.2.2.2.2.2.2.2.2.2.1 0, .arr tVersion x.2.2.2.2.2.2.2.2.2.2.2.2.2.2.2.2.2.2.2.2.2.2.2.2.2.1, .dep tTxn x.2.2.2.2.2.2.2.2.2.2.2.2.2.2.2.2.2.2.2.2.2.2.2.2.2.2.1 0, .dep tTxn x.2.2.2.2.2.2.2.2.2.2.2.2.2.2.2.2.2.2.2.2.2.2.2.2.2.2.2.1 0, .dep tTxn x.2.2.2.2.2.2.2.2.2.2.2.2.2.2.2.2.2.2.2.2.2.2.2.2.2.2.2.2 0])
def vgc : (q37T ⊕ (q34T ⊕ q31T)) → Out × List AV × St := (Sum.elim (fun z => (.ret, [.bp 0 0, .bool z.1, .bp 1 0, .int .i64 z.2.1, .int .i64 z.2.2.1, .bp 2 0, .bp 3 0, .int .i64 z.2.2.2.1, .int .i64 z.2.2.2.2.1], [.box [.lst tVersion z.2.2.2.2.2.1, .lst tTxn z.2.2.2.2.2.2.1, .lst tTxn z.2.2.2.2.2.2.2.1, .int .i64 z.2.2.2.2.2.2.2.2.1, .int .i64 z.2.2.2.2.2.2.2.2.2.1, .lst tTxn z.2.2.2.2.2.2.2.2.2.2.1], .box [.own 4, .own 5, .own 6, .int .i64 z.2.2.2.2.2.2.2.2.2.2.2.1, .int .i64 z.2.2.2.2.2.2.2.2.2.2.2.2.1, .own 7], .box [.own 8, .own 9, .own 10, .int .i64 z.2.2.2.2.2.2.2.2.2.2.2.2.2.1, .int .i64 z.2.2.2.2.2.2.2.2.2.2.2.2.2.2.1, .own 11], .box [.own 12, .own 13, .own 14, .int .i64 z.2.2.2.2.2.2.2.2.2.2.2.2.2.2.2.1, .int .i64 z.2.2.2.2.2.2.2.2.2.2.2.2.2.2.2.2.1, .own 15], .arr tVersion z.2.2.2.2.2.2.2.2.2.2.2.2.2.2.2.2.2.1, .arr tTxn z.2.2.2.2.2.2.2.2.2.2.2.2.2.2.2.2.2.2.1, .arr tTxn z.2.2.2.2.2.2.2.2.2.2.2.2.2.2.2.2.2.2.2.1, .arr tTxn z.2.2.2.2.2.2.2.2.2.2.2.2.2.2.2.2.2.2.2.2.1, .arr tVersion z.2.2.2.2.2.2.2.2.2.2.2.2.2.2.2.2.2.2.2.2.2.1, .dep tTxn z.2.2.2.2.2.2.2.2.2.2.2.2.2.2.2.2.2.2.2.2.2.2.1 0, .dep tTxn z.2.2.2.2.2.2.2.2.2.2.2.2.2.2.2.2.2.2.2.2.2.2.2.1 0, .dep tTxn z.2.2.2.2.2.2.2.2.2.2.2.2.2.2.2.2.2.2.2.2.2.2.2.2.1 0, .arr tVersion z.2.2.2.2.2.2.2.2.2.2.2.2.2.2.2.2.2.2.2.2.2.2.2.2.2.1, .dep tTxn z.2.2.2.2.2.2.2.2.2.2.2.2.2.2.2.2.2.2.2.2.2.2.2.2.2.2.1 0, .dep tTxn z.2.2.2.2.2.2.2.2.2.2.2.2.2.2.2.2.2.2.2.2.2.2.2.2.2.2.2.1 0, .dep tTxn z.2.2.2.2.2.2.2.2.2.2.2.2.2.2.2.2.2.2.2.2.2.2.2.2.2.2.2.2 0])) (Sum.elim (fun z => (.ret, [.bp 0 0, .bool z.1, .bp 1 0, .int .i64 z.2.1, .int .i64 z.2.2.1, .dead, .bp 2 0, .dead, .dead], [.box [.lst tVersion z.2.2.2.1, .lst tTxn z.2.2.2.2.1, .lst tTxn z.2.2.2.2.2.1, .int .i64 z.2.2.2.2.2.2.1, .int .i64 z.2.2.2.2.2.2.2.1, .lst tTxn z.2.2.2.2.2.2.2.2.1], .box [.own 3, .own 4, .own 5, .int .i64 z.2.2.2.2.2.2.2.2.2.1, .int .i64 z.2.2.2.2.2.2.2.2.2.2.1, .own 6], .box [.own 7, .own 8, .own 9, .int .i64 z.2.2.2.2.2.2.2.2.2.2.2.1, .int .i64 z.2.2.2.2.2.2.2.2.2.2.2.2.1, .own 10], .arr tVersion z.2.2.2.2.2.2.2.2.2.2.2.2.2.1, .arr tTxn z.2.2.2.2.2.2.2.2.2.2.2.2.2.2.1, .arr tTxn z.2.2.2.2.2.2.2.2.2.2.2.2.2.2.2.1, .arr tTxn z.2.2.2.2.2.2.2.2.2.2.2.2.2.2.2.2.1, .arr tVersion z.2.2.2.2.2.2.2.2.2.2.2.2.2.2.2.2.2.1, .dep tTxn z.2.2.2.2.2.2.2.2.2.2.2.2.2.2.2.2.2.2.1 0, .dep tTxn z.2.2.2.2.2.2.2.2.2.2.2.2.2.2.2.2.2.2.2.1 0, .dep tTxn z.2.2.2.2.2.2.2.2.2.2.2.2.2.2.2.2.2.2.2.2 0])) (fun z => (.ret, [.dead, .bool z.1, .dead, .dead, .dead, .dead, .bp 0 0, .dead, .dead], [.box [.own 1, .own 2, .own 3, .int .i64 z.2.1, .int .i64 z.2.2.1, .own 4], .arr tVersion z.2.2.2.1, .dep tTxn z.2.2.2.2.1 0, .dep tTxn z.2.2.2.2.2.1 0, .dep tTxn z.2.2.2.2.2.2 0]))))
theorem vxr (x : q37T) : exec G85 ⟨0, 117, vbz⟩ (vad Try.f7 5000010) (va5 ⟨0, 117, vbz⟩ [1, 2, 4, 5, 6, 7, 8, 9, 10] []) (va3 (va0 117) [1, 2, 4, 5, 6, 7, 8, 9, 10] (vnq x)) (vn1 x) = vc6 x (fun z => some ⟨(vgc z).1, (vgc z).2.1, (vgc z).2.2⟩) := by
  kernel_rfl
theorem vy2 : ∀ sp, (vbz 5000010) = some sp → vg5 G85 ⟨0, 117, vbz⟩ sp (vad Try.f7 5000010) := by
  intro sp hsp vals st k r h
  cases hsp
  dsimp only at h
  rcases vai h with ⟨p, q, rfl, rfl, h⟩ | h
  · exact vbu vou vnq vn1 vgc vxr (p.2.1, p.2.2.2.1, p.2.2.2.2.1, p.2.2.2.2.2.2.2.1, p.2.2.2.2.2.2.2.2.1, q.1.1, q.1.2.1, q.1.2.2.1, q.1.2.2.2.1, q.1.2.2.2.2.1, q.1.2.2.2.2.2.1, q.2.1.2.2.2.1, q.2.1.2.2.2.2.1, q.2.2.1.2.2.2.1, q.2.2.1.2.2.2.2.1, q.2.2.2.1.2.2.2.1, q.2.2.2.1.2.2.2.2.1, q.2.2.2.2.1, q.2.2.2.2.2.1, q.2.2.2.2.2.2.1, q.2.2.2.2.2.2.2.1, q.2.2.2.2.2.2.2.2.1, q.2.2.2.2.2.2.2.2.2.1, q.2.2.2.2.2.2.2.2.2.2.1, q.2.2.2.2.2.2.2.2.2.2.2.1, q.2.2.2.2.2.2.2.2.2.2.2.2.1, q.2.2.2.2.2.2.2.2.2.2.2.2.2.1, q.2.2.2.2.2.2.2.2.2.2.2.2.2.2.1, q.2.2.2.2.2.2.2.2.2.2.2.2.2.2.2.1) _ k r (fun z => by rcases z with z | z | z <;> rfl) h
  cases h
theorem w1k (a0 : (List vac)) (a1 : (List dTxn)) (a2 : (List dTxn)) (a3 : Int) (a4 : Int) (a5 : (List dTxn)) : var G85 vbz Try.f7 [.agg [.lst tVersion a0, .lst tTxn a1, .lst tTxn a2, .int .i64 a3, .int .i64 a4, .lst tTxn a5]] [] = v0j ((a0, (a1, (a2, (a3, a4)))), a5) (fun (y : Bool) => some ⟨.ret, [.bool y], []⟩) := by rw [wf3]; kernel_rfl
theorem wzw : vao G85 ⟨0, 117, vbz⟩ (Try.f7.body.getD .skip) :=
  vaf (ids := [5000027, 5000016, 5000010]) (by kernel_rfl) (by kernel_rfl) ⟨vxv, ⟨vxy, ⟨vy2, trivial⟩⟩⟩
theorem wst : val Try.prog 7 wcz := by
  refine told G85_ok follows Try.func7 (c := Try.f7.body.getD .skip) (by kernel_rfl) ?_
  intro args s k r hk
  unfold wcz at hk
  rcases vag hk with ⟨p, q, rfl, rfl⟩ | hk
  · exact ⟨vbz, (wz0 ((p.1.1, (p.1.2.1, (p.1.2.2.1, (p.1.2.2.2.1, p.1.2.2.2.2.1)))), p.1.2.2.2.2.2.1)).map _, w1k p.1.1 p.1.2.1 p.1.2.2.1 p.1.2.2.2.1 p.1.2.2.2.2.1 p.1.2.2.2.2.2.1, wzw⟩
  cases hk
def G86 : Glob := G85.add 7 wcz
theorem w33 : GlobOk Try.prog G86 := G85_ok.add ⟨Try.f7, Try.func7, by kernel_rfl, by kernel_rfl⟩ wst
end
end Go.VE
