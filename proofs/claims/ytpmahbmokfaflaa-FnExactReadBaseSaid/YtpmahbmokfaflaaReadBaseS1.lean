/- Each function told by its native program; written by gen.py. -/
import Derived.Test.YtpmahbmokfaflaaReadBaseS0
namespace Go.VE
open Go.Proofs
noncomputable section
set_option linter.unusedVariables false
set_option linter.unusedSimpArgs false
set_option maxRecDepth 100000
def vub : Nat → Option LoopSpec
  | _ => none
theorem ww3 (a0 : Int) (a1 : Int) (a2 : Int) : var G0.shallow vub Try.f94 [.int .i64 a0, .int .i64 a1, .int .i64 a2] [] = vdx a0 a1 a2 (fun (y : Bool) => some ⟨.ret, [.bool y], []⟩) := by rw [wni]; kernel_rfl
theorem w2m : vao G0.shallow ⟨0, 15, vub⟩ (Try.f94.body.getD .skip) :=
  vah (ids := []) (by kernel_rfl) (by kernel_rfl) trivial
theorem wzz : val Try.prog 94 wit := by
  refine told G0_ok.shallow follows Try.func94 (c := Try.f94.body.getD .skip) (by kernel_rfl) ?_
  intro args s k r hk
  unfold wit at hk
  rcases vag hk with ⟨p, q, rfl, rfl⟩ | hk
  · exact ⟨vub, (vm2 p.1 p.2.1 p.2.2.1).map _, ww3 p.1 p.2.1 p.2.2.1, w2m⟩
  cases hk
def G1 : Glob := G0.add 94 wit
theorem G1_ok : GlobOk Try.prog G1 := G0_ok.add ⟨Try.f94, Try.func94, by kernel_rfl, by kernel_rfl⟩ wzz
def vgd : Nat → Option LoopSpec
  | 0 => some ⟨[0, 3], [], fun vals st k => vaj [.int .i64, .own 0] [.arr (.int .u8)] vals st (fun p q => vai vkh Fuel (p.1, q.1) (fun z => k (.exit 0) [.int .i64 z.1, .own 0] [.arr (.int .u8) z.2]))
      (none)⟩
  | _ => none
def v8t : (Int × (List Int)) → List AV := (fun x => [.int .i64 x.1, .own 0])
def wbn : (Int × (List Int)) → St := (fun x => [.arr (.int .u8) x.2])
def v26 : (Int × (List Int)) → Out × List AV × St := (fun z => ((.exit 0), [.int .i64 z.1, .own 0], [.arr (.int .u8) z.2]))
theorem wru (x : (Int × (List Int))) : exec G1.shallow ⟨0, 22, vgd⟩ (vad Try.f127 0) (va3 ⟨0, 22, vgd⟩ [0, 3] []) (va0 (vay 22) [0, 3] (v8t x)) (wbn x) = vkh x (Sum.elim (fun y => some ⟨.norm, v8t y, wbn y⟩) fun z => some ⟨(v26 z).1, (v26 z).2.1, (v26 z).2.2⟩) := by
  kernel_rfl
theorem wq2 : ∀ sp, (vgd 0) = some sp → vbc G1.shallow ⟨0, 22, vgd⟩ sp (vad Try.f127 0) := by
  intro sp hsp vals st k r h
  cases hsp
  dsimp only at h
  rcases vae h with ⟨p, q, rfl, rfl, h⟩ | h
  · exact vaq wb6 v8t wbn v26 (fun z => by (intro h; cases h)) wru Fuel (p.1, q.1) _ k r (fun z => rfl) h
  cases h
theorem wze (a0 : Int) : var G1.shallow vgd Try.f127 [.int .i64 a0] [] = v0u a0 (fun (y : ByteArray) => some ⟨.ret, [.str y], []⟩) := by rw [wla]; kernel_rfl
theorem w2y : vao G1.shallow ⟨0, 22, vgd⟩ (Try.f127.body.getD .skip) :=
  vah (ids := [0]) (by kernel_rfl) (by kernel_rfl) ⟨wq2, trivial⟩
theorem w21 : val Try.prog 127 wlo := by
  refine told G1_ok.shallow follows Try.func127 (c := Try.f127.body.getD .skip) (by kernel_rfl) ?_
  intro args s k r hk
  unfold wlo at hk
  rcases vag hk with ⟨p, q, rfl, rfl⟩ | hk
  · exact ⟨vgd, (wtx p.1).map _, wze p.1, w2y⟩
  cases hk
def G2 : Glob := G1.add 127 wlo
theorem G2_ok : GlobOk Try.prog G2 := G1_ok.add ⟨Try.f127, Try.func127, by kernel_rfl, by kernel_rfl⟩ w21
def vc0 : Nat → Option LoopSpec
  | 6000001 => some ⟨[0, 1, 4, 5, 6, 7, 8, 9], [], fun vals st k => vaj [.str, .int .i64, .int .i64, .int .i64, .bool, .int .i64, .int .i64, .int .i64] [] vals st (fun p q => veg (p.1, p.2.1, p.2.2.1, p.2.2.2.1, p.2.2.2.2.1, p.2.2.2.2.2.1, p.2.2.2.2.2.2.1, p.2.2.2.2.2.2.2.1) (Sum.elim (fun z => k .ret [.str z.1, .int .i64 z.2.1, .int .i64 z.2.2.1, .int .i64 z.2.2.2.1, .bool z.2.2.2.2.1, .int .i64 z.2.2.2.2.2.1, .int .i64 z.2.2.2.2.2.2.1, .int .i64 z.2.2.2.2.2.2.2] []) (fun z => k .norm [.str z.1, .int .i64 z.2.1, .int .i64 z.2.2.1, .int .i64 z.2.2.2.1, .bool z.2.2.2.2.1, .int .i64 z.2.2.2.2.2.1, .int .i64 z.2.2.2.2.2.2.1, .int .i64 z.2.2.2.2.2.2.2] [])))
      (none)⟩
  | 0 => some ⟨[0, 1, 4, 5, 6, 7, 8, 9], [], fun vals st k => vaj [.str, .int .i64, .int .i64, .int .i64, .bool, .int .i64, .int .i64, .int .i64] [] vals st (fun p q => vai vlw Fuel (p.1, p.2.1, p.2.2.1, p.2.2.2.1, p.2.2.2.2.1, p.2.2.2.2.2.1, p.2.2.2.2.2.2.1, p.2.2.2.2.2.2.2.1) (Sum.elim (fun z => k (.exit 0) [.str z.1, .int .i64 z.2.1, .int .i64 z.2.2.1, .int .i64 z.2.2.2.1, .bool z.2.2.2.2.1, .int .i64 z.2.2.2.2.2.1, .int .i64 z.2.2.2.2.2.2.1, .int .i64 z.2.2.2.2.2.2.2] []) (fun z => k .ret [.str z.1, .int .i64 z.2.1, .int .i64 z.2.2.1, .int .i64 z.2.2.2.1, .bool z.2.2.2.2.1, .int .i64 z.2.2.2.2.2.1, .int .i64 z.2.2.2.2.2.2.1, .int .i64 z.2.2.2.2.2.2.2] [])))
      (none)⟩
  | 2000011 => some ⟨[0, 2, 4, 6, 10, 12, 14, 16, 18, 8, 20, 22], [], fun _ _ _ => none⟩
  | _ => none
def vq0 : q35T → List AV := (fun x => [.str x.1, .int .i64 x.2.1, .int .i64 x.2.2.1, .int .i64 x.2.2.2.1, .bool x.2.2.2.2.1, .int .i64 x.2.2.2.2.2.1, .int .i64 x.2.2.2.2.2.2.1, .int .i64 x.2.2.2.2.2.2.2])
def vpo : q35T → St := (fun x => [])
def vhk : (q35T ⊕ q35T) → Out × List AV × St := (Sum.elim (fun z => (.ret, [.str z.1, .int .i64 z.2.1, .int .i64 z.2.2.1, .int .i64 z.2.2.2.1, .bool z.2.2.2.2.1, .int .i64 z.2.2.2.2.2.1, .int .i64 z.2.2.2.2.2.2.1, .int .i64 z.2.2.2.2.2.2.2], [])) (fun z => (.norm, [.str z.1, .int .i64 z.2.1, .int .i64 z.2.2.1, .int .i64 z.2.2.2.1, .bool z.2.2.2.2.1, .int .i64 z.2.2.2.2.2.1, .int .i64 z.2.2.2.2.2.2.1, .int .i64 z.2.2.2.2.2.2.2], [])))
theorem vyr (x : q35T) : exec G2.shallow ⟨0, 58, vc0⟩ (vad Try.f216 6000001) (va3 ⟨0, 58, vc0⟩ [0, 1, 4, 5, 6, 7, 8, 9] []) (va0 (vay 58) [0, 1, 4, 5, 6, 7, 8, 9] (vq0 x)) (vpo x) = veg x (fun z => some ⟨(vhk z).1, (vhk z).2.1, (vhk z).2.2⟩) := by
  kernel_rfl
theorem vyv : ∀ sp, (vc0 6000001) = some sp → vep G2.shallow ⟨0, 58, vc0⟩ sp (vad Try.f216 6000001) := by
  intro sp hsp vals st k r h
  cases hsp
  dsimp only at h
  rcases vae h with ⟨p, q, rfl, rfl, h⟩ | h
  · exact va5 vp4 vq0 vpo vhk vyr (p.1, p.2.1, p.2.2.1, p.2.2.2.1, p.2.2.2.2.1, p.2.2.2.2.2.1, p.2.2.2.2.2.2.1, p.2.2.2.2.2.2.2.1) _ k r (fun z => by rcases z with z | z <;> rfl) h
  cases h
def v9v : q35T → List AV := (fun x => [.str x.1, .int .i64 x.2.1, .int .i64 x.2.2.1, .int .i64 x.2.2.2.1, .bool x.2.2.2.2.1, .int .i64 x.2.2.2.2.2.1, .int .i64 x.2.2.2.2.2.2.1, .int .i64 x.2.2.2.2.2.2.2])
def v8v : q35T → St := (fun x => [])
def v5b : (q35T ⊕ q35T) → Out × List AV × St := (Sum.elim (fun z => ((.exit 0), [.str z.1, .int .i64 z.2.1, .int .i64 z.2.2.1, .int .i64 z.2.2.2.1, .bool z.2.2.2.2.1, .int .i64 z.2.2.2.2.2.1, .int .i64 z.2.2.2.2.2.2.1, .int .i64 z.2.2.2.2.2.2.2], [])) (fun z => (.ret, [.str z.1, .int .i64 z.2.1, .int .i64 z.2.2.1, .int .i64 z.2.2.2.1, .bool z.2.2.2.2.1, .int .i64 z.2.2.2.2.2.1, .int .i64 z.2.2.2.2.2.2.1, .int .i64 z.2.2.2.2.2.2.2], [])))
theorem wqc (x : q35T) : exec G2.shallow ⟨0, 58, vc0⟩ (vad Try.f216 0) (va3 ⟨0, 58, vc0⟩ [0, 1, 4, 5, 6, 7, 8, 9] []) (va0 (vay 58) [0, 1, 4, 5, 6, 7, 8, 9] (v9v x)) (v8v x) = vlw x (Sum.elim (fun y => some ⟨.norm, v9v y, v8v y⟩) fun z => some ⟨(v5b z).1, (v5b z).2.1, (v5b z).2.2⟩) := by
  kernel_rfl
theorem wrm : ∀ sp, (vc0 0) = some sp → vbc G2.shallow ⟨0, 58, vc0⟩ sp (vad Try.f216 0) := by
  intro sp hsp vals st k r h
  cases hsp
  dsimp only at h
  rcases vae h with ⟨p, q, rfl, rfl, h⟩ | h
  · exact vaq wde v9v v8v v5b (fun z => by rcases z with z | z <;> (intro h; cases h)) wqc Fuel (p.1, p.2.1, p.2.2.1, p.2.2.2.1, p.2.2.2.2.1, p.2.2.2.2.2.1, p.2.2.2.2.2.2.1, p.2.2.2.2.2.2.2.1) _ k r (fun z => by rcases z with z | z <;> rfl) h
  cases h
theorem w0d (a0 : ByteArray) (a1 : Int) : var G2.shallow vc0 Try.f216 [.str a0, .int .i64 a1] [] = vxn a0 a1 (fun (y : (Int × Int × Bool)) => some ⟨.ret, [.tup [.int .i64 y.1, .int .i64 y.2.1, .bool y.2.2]], []⟩) := by rw [wmm]; kernel_rfl
theorem wxj : vao G2.shallow ⟨0, 58, vc0⟩ (Try.f216.body.getD .skip) :=
  vah (ids := [6000001, 0]) (by kernel_rfl) (by kernel_rfl) ⟨vyv, ⟨wrm, trivial⟩⟩
theorem w2h : val Try.prog 216 wjy := by
  refine told G2_ok.shallow follows Try.func216 (c := Try.f216.body.getD .skip) (by kernel_rfl) ?_
  intro args s k r hk
  unfold wjy at hk
  rcases vag hk with ⟨p, q, rfl, rfl⟩ | hk
  · exact ⟨vc0, (wjp p.1 p.2.1).map _, w0d p.1 p.2.1, wxj⟩
  cases hk
def G3 : Glob := G2.add 216 wjy
theorem G3_ok : GlobOk Try.prog G3 := G2_ok.add ⟨Try.f216, Try.func216, by kernel_rfl, by kernel_rfl⟩ w2h
def vsy : Nat → Option LoopSpec
  | 2000001 => some ⟨[0, 2, 4, 6, 8, 10, 12, 14, 16, 18, 20, 22, 24, 26, 28, 30], [], fun _ _ _ => none⟩
  | _ => none
theorem wv5 (a0 : ByteArray) (a1 : Int) (a2 : Bool) : var G3.shallow vsy Try.f151 [.bp 0 0] [.box [.str a0, .int .i64 a1, .bool a2]] = vh0 a0 a1 a2 (fun (y : (Int × ByteArray × Int × Bool)) => some ⟨.ret, [.int .i64 y.1], [.box [.str y.2.1, .int .i64 y.2.2.1, .bool y.2.2.2]]⟩) := by rw [wmf]; kernel_rfl
theorem wyy : vao G3.shallow ⟨1, 35, vsy⟩ (Try.f151.body.getD .skip) :=
  vah (ids := []) (by kernel_rfl) (by kernel_rfl) trivial
theorem wyp : val Try.prog 151 wk8 := by
  refine told G3_ok.shallow follows Try.func151 (c := Try.f151.body.getD .skip) (by kernel_rfl) ?_
  intro args s k r hk
  unfold wk8 at hk
  rcases vag hk with ⟨p, q, rfl, rfl⟩ | hk
  · exact ⟨vsy, (vl8 q.1.1 q.1.2.1 q.1.2.2.1).map _, wv5 q.1.1 q.1.2.1 q.1.2.2.1, wyy⟩
  cases hk
def G4 : Glob := G3.add 151 wk8
theorem G4_ok : GlobOk Try.prog G4 := G3_ok.add ⟨Try.f151, Try.func151, by kernel_rfl, by kernel_rfl⟩ wyp
def vui : Nat → Option LoopSpec
  | _ => none
theorem wym (a0 : ByteArray) (a1 : Int) : var G4.shallow vui Try.f217 [.str a0, .int .i64 a1] [] = v18 a0 a1 (fun (y : (ByteArray × Int × Bool)) => some ⟨.ret, [.tup [.str y.1, .int .i64 y.2.1, .bool y.2.2]], []⟩) := by rw [wnd]; kernel_rfl
theorem w3a : vao G4.shallow ⟨0, 40, vui⟩ (Try.f217.body.getD .skip) :=
  vah (ids := []) (by kernel_rfl) (by kernel_rfl) trivial
theorem w3h : val Try.prog 217 whm := by
  refine told G4_ok.shallow follows Try.func217 (c := Try.f217.body.getD .skip) (by kernel_rfl) ?_
  intro args s k r hk
  unfold whm at hk
  rcases vag hk with ⟨p, q, rfl, rfl⟩ | hk
  · exact ⟨vui, (wsy p.1 p.2.1).map _, wym p.1 p.2.1, w3a⟩
  cases hk
def G5 : Glob := G4.add 217 whm
theorem G5_ok : GlobOk Try.prog G5 := G4_ok.add ⟨Try.f217, Try.func217, by kernel_rfl, by kernel_rfl⟩ w3h
def vtw : Nat → Option LoopSpec
  | 2000001 => some ⟨[0, 2, 4, 6, 8, 10, 12, 14, 16, 18, 20, 22, 24, 26, 28, 30], [], fun _ _ _ => none⟩
  | _ => none
theorem wz3 (a0 : ByteArray) (a1 : Int) (a2 : Bool) : var G5.shallow vtw Try.f152 [.bp 0 0] [.box [.str a0, .int .i64 a1, .bool a2]] = vl7 a0 a1 a2 (fun (y : q27T) => some ⟨.ret, [.str y.1], [.box [.str y.2.1, .int .i64 y.2.2.1, .bool y.2.2.2]]⟩) := by rw [wkl]; kernel_rfl
theorem w0g : vao G5.shallow ⟨1, 35, vtw⟩ (Try.f152.body.getD .skip) :=
  vah (ids := []) (by kernel_rfl) (by kernel_rfl) trivial
theorem wxh : val Try.prog 152 wih := by
  refine told G5_ok.shallow follows Try.func152 (c := Try.f152.body.getD .skip) (by kernel_rfl) ?_
  intro args s k r hk
  unfold wih at hk
  rcases vag hk with ⟨p, q, rfl, rfl⟩ | hk
  · exact ⟨vtw, (vvi q.1.1 q.1.2.1 q.1.2.2.1).map _, wz3 q.1.1 q.1.2.1 q.1.2.2.1, w0g⟩
  cases hk
def G6 : Glob := G5.add 152 wih
theorem G6_ok : GlobOk Try.prog G6 := G5_ok.add ⟨Try.f152, Try.func152, by kernel_rfl, by kernel_rfl⟩ wxh
def vfv : Nat → Option LoopSpec
  | 5000004 => some ⟨[0, 2], [], fun vals st k => vaj [.bp 0 0, .bool] [.box [.str, .int .i64, .bool]] vals st (fun p q => vek (p.2.1, q.1.1, q.1.2.1, q.1.2.2.1) (fun z => k .ret [.bp 0 0, .bool z.1] [.box [.str z.2.1, .int .i64 z.2.2.1, .bool z.2.2.2]]))
      (none)⟩
  | 2000001 => some ⟨[0, 2, 4, 6, 8, 10, 12, 14, 16, 18, 20, 22, 24, 26, 28, 30, 32, 34, 36, 38, 40, 42, 44, 46, 48, 50, 52, 54], [], fun _ _ _ => none⟩
  | 2000005 => some ⟨[0, 2, 4, 6, 8, 10, 12, 14, 16, 18, 20, 22], [], fun _ _ _ => none⟩
  | _ => none
def vpv : q19T → List AV := (fun x => [.bp 0 0, .bool x.1])
def vo1 : q19T → St := (fun x => [.box [.str x.2.1, .int .i64 x.2.2.1, .bool x.2.2.2]])
def vha : q19T → Out × List AV × St := (fun z => (.ret, [.bp 0 0, .bool z.1], [.box [.str z.2.1, .int .i64 z.2.2.1, .bool z.2.2.2]]))
theorem vzj (x : q19T) : exec G6.shallow ⟨1, 53, vfv⟩ (vad Try.f153 5000004) (va3 ⟨1, 53, vfv⟩ [0, 2] []) (va0 (vay 53) [0, 2] (vpv x)) (vo1 x) = vek x (fun z => some ⟨(vha z).1, (vha z).2.1, (vha z).2.2⟩) := by
  kernel_rfl
theorem vy1 : ∀ sp, (vfv 5000004) = some sp → vep G6.shallow ⟨1, 53, vfv⟩ sp (vad Try.f153 5000004) := by
  intro sp hsp vals st k r h
  cases hsp
  dsimp only at h
  rcases vae h with ⟨p, q, rfl, rfl, h⟩ | h
  · exact va5 vpk vpv vo1 vha vzj (p.2.1, q.1.1, q.1.2.1, q.1.2.2.1) _ k r (fun z => rfl) h
  cases h
theorem w2a (a0 : ByteArray) (a1 : Int) (a2 : Bool) : var G6.shallow vfv Try.f153 [.bp 0 0] [.box [.str a0, .int .i64 a1, .bool a2]] = vu5 a0 a1 a2 (fun (y : q19T) => some ⟨.ret, [.bool y.1], [.box [.str y.2.1, .int .i64 y.2.2.1, .bool y.2.2.2]]⟩) := by rw [wno]; kernel_rfl
theorem w0t : vao G6.shallow ⟨1, 53, vfv⟩ (Try.f153.body.getD .skip) :=
  vah (ids := [5000004]) (by kernel_rfl) (by kernel_rfl) ⟨vy1, trivial⟩
theorem w0m : val Try.prog 153 wnp := by
  refine told G6_ok.shallow follows Try.func153 (c := Try.f153.body.getD .skip) (by kernel_rfl) ?_
  intro args s k r hk
  unfold wnp at hk
  rcases vag hk with ⟨p, q, rfl, rfl⟩ | hk
  · exact ⟨vfv, (wer q.1.1 q.1.2.1 q.1.2.2.1).map _, w2a q.1.1 q.1.2.1 q.1.2.2.1, w0t⟩
  cases hk
def G7 : Glob := G6.add 153 wnp
theorem G7_ok : GlobOk Try.prog G7 := G6_ok.add ⟨Try.f153, Try.func153, by kernel_rfl, by kernel_rfl⟩ w0m
def vga : Nat → Option LoopSpec
  | 0 => some ⟨[0, 2, 3], [], fun vals st k => vaj [.str, .bool, .int .i64] [] vals st (fun p q => vai vls Fuel (p.1, p.2.1, p.2.2.1) (Sum.elim (fun z => k .ret [.str z.1, .bool z.2.1, .int .i64 z.2.2] []) (fun z => k (.exit 0) [.str z.1, .bool z.2.1, .int .i64 z.2.2] [])))
      (none)⟩
  | _ => none
def wac : (ByteArray × Bool × Int) → List AV := (fun x => [.str x.1, .bool x.2.1, .int .i64 x.2.2])
def wbi : (ByteArray × Bool × Int) → St := (fun x => [])
def v3s : ((ByteArray × Bool × Int) ⊕ (ByteArray × Bool × Int)) → Out × List AV × St := (Sum.elim (fun z => (.ret, [.str z.1, .bool z.2.1, .int .i64 z.2.2], [])) (fun z => ((.exit 0), [.str z.1, .bool z.2.1, .int .i64 z.2.2], [])))
theorem wsa (x : (ByteArray × Bool × Int)) : exec G7.shallow ⟨0, 23, vga⟩ (vad Try.f96 0) (va3 ⟨0, 23, vga⟩ [0, 2, 3] []) (va0 (vay 23) [0, 2, 3] (wac x)) (wbi x) = vls x (Sum.elim (fun y => some ⟨.norm, wac y, wbi y⟩) fun z => some ⟨(v3s z).1, (v3s z).2.1, (v3s z).2.2⟩) := by
  kernel_rfl
theorem wrg : ∀ sp, (vga 0) = some sp → vbc G7.shallow ⟨0, 23, vga⟩ sp (vad Try.f96 0) := by
  intro sp hsp vals st k r h
  cases hsp
  dsimp only at h
  rcases vae h with ⟨p, q, rfl, rfl, h⟩ | h
  · exact vaq wcp wac wbi v3s (fun z => by rcases z with z | z <;> (intro h; cases h)) wsa Fuel (p.1, p.2.1, p.2.2.1) _ k r (fun z => by rcases z with z | z <;> rfl) h
  cases h
theorem w2z (a0 : ByteArray) : var G7.shallow vga Try.f96 [.str a0] [] = vjz a0 (fun (y : Bool) => some ⟨.ret, [.bool y], []⟩) := by rw [wi9]; kernel_rfl
theorem wwx : vao G7.shallow ⟨0, 23, vga⟩ (Try.f96.body.getD .skip) :=
  vah (ids := [0]) (by kernel_rfl) (by kernel_rfl) ⟨wrg, trivial⟩
theorem w0y : val Try.prog 96 wlm := by
  refine told G7_ok.shallow follows Try.func96 (c := Try.f96.body.getD .skip) (by kernel_rfl) ?_
  intro args s k r hk
  unfold wlm at hk
  rcases vag hk with ⟨p, q, rfl, rfl⟩ | hk
  · exact ⟨vga, (v00 p.1).map _, w2z p.1, wwx⟩
  cases hk
def G8 : Glob := G7.add 96 wlm
theorem G8_ok : GlobOk Try.prog G8 := G7_ok.add ⟨Try.f96, Try.func96, by kernel_rfl, by kernel_rfl⟩ w0y
def vt0 : Nat → Option LoopSpec
  | _ => none
theorem wxr (a0 : ByteArray) (a1 : ByteArray) (a2 : Bool) : var G8.shallow vt0 Try.f231 [.agg [.str a0, .str a1, .bool a2]] [] = vxy (a0, (a1, a2)) (fun (y : Bool) => some ⟨.ret, [.bool y], []⟩) := by rw [wh4]; kernel_rfl
theorem w1t : vao G8.shallow ⟨0, 22, vt0⟩ (Try.f231.body.getD .skip) :=
  vah (ids := []) (by kernel_rfl) (by kernel_rfl) trivial
theorem w0l : val Try.prog 231 wis := by
  refine told G8_ok.shallow follows Try.func231 (c := Try.f231.body.getD .skip) (by kernel_rfl) ?_
  intro args s k r hk
  unfold wis at hk
  rcases vag hk with ⟨p, q, rfl, rfl⟩ | hk
  · exact ⟨vt0, (wtr (p.1.1, (p.1.2.1, p.1.2.2.1))).map _, wxr p.1.1 p.1.2.1 p.1.2.2.1, w1t⟩
  cases hk
def G9 : Glob := G8.add 231 wis
theorem G9_ok : GlobOk Try.prog G9 := G8_ok.add ⟨Try.f231, Try.func231, by kernel_rfl, by kernel_rfl⟩ w0l
def vgg : Nat → Option LoopSpec
  | 0 => some ⟨[0, 2, 3], [], fun vals st k => vaj [.lst tWrite, .bool, .int .i64] [] vals st (fun p q => vai vlh Fuel (p.1, p.2.1, p.2.2.1) (Sum.elim (fun z => k .ret [.lst tWrite z.1, .bool z.2.1, .int .i64 z.2.2] []) (fun z => k (.exit 0) [.lst tWrite z.1, .bool z.2.1, .int .i64 z.2.2] [])))
      (none)⟩
  | 2000004 => some ⟨[0, 2, 4, 6, 9, 10, 12, 14, 16, 18, 20, 22, 24, 26, 28, 30, 32, 34, 36, 38, 40, 42, 44, 46], [], fun _ _ _ => none⟩
  | _ => none
def v89 : ((List vam) × Bool × Int) → List AV := (fun x => [.lst tWrite x.1, .bool x.2.1, .int .i64 x.2.2])
def v9p : ((List vam) × Bool × Int) → St := (fun x => [])
def v25 : (((List vam) × Bool × Int) ⊕ ((List vam) × Bool × Int)) → Out × List AV × St := (Sum.elim (fun z => (.ret, [.lst tWrite z.1, .bool z.2.1, .int .i64 z.2.2], [])) (fun z => ((.exit 0), [.lst tWrite z.1, .bool z.2.1, .int .i64 z.2.2], [])))
theorem woy (x : ((List vam) × Bool × Int)) : exec G9.shallow ⟨0, 37, vgg⟩ (vad Try.f165 0) (va3 ⟨0, 37, vgg⟩ [0, 2, 3] []) (va0 (vay 37) [0, 2, 3] (v89 x)) (v9p x) = vlh x (Sum.elim (fun y => some ⟨.norm, v89 y, v9p y⟩) fun z => some ⟨(v25 z).1, (v25 z).2.1, (v25 z).2.2⟩) := by
  kernel_rfl
theorem wn2 : ∀ sp, (vgg 0) = some sp → vbc G9.shallow ⟨0, 37, vgg⟩ sp (vad Try.f165 0) := by
  intro sp hsp vals st k r h
  cases hsp
  dsimp only at h
  rcases vae h with ⟨p, q, rfl, rfl, h⟩ | h
  · exact vaq wdn v89 v9p v25 (fun z => by rcases z with z | z <;> (intro h; cases h)) woy Fuel (p.1, p.2.1, p.2.2.1) _ k r (fun z => by rcases z with z | z <;> rfl) h
  cases h
theorem w23 (a0 : (List vam)) : var G9.shallow vgg Try.f165 [.lst tWrite a0] [] = vve a0 (fun (y : Bool) => some ⟨.ret, [.bool y], []⟩) := by rw [wio]; kernel_rfl
theorem wwt : vao G9.shallow ⟨0, 37, vgg⟩ (Try.f165.body.getD .skip) :=
  vah (ids := [0]) (by kernel_rfl) (by kernel_rfl) ⟨wn2, trivial⟩
theorem wwv : val Try.prog 165 wmh := by
  refine told G9_ok.shallow follows Try.func165 (c := Try.f165.body.getD .skip) (by kernel_rfl) ?_
  intro args s k r hk
  unfold wmh at hk
  rcases vag hk with ⟨p, q, rfl, rfl⟩ | hk
  · exact ⟨vgg, (wte p.1).map _, w23 p.1, wwt⟩
  cases hk
def G10 : Glob := G9.add 165 wmh
theorem G10_ok : GlobOk Try.prog G10 := G9_ok.add ⟨Try.f165, Try.func165, by kernel_rfl, by kernel_rfl⟩ wwv
def vth : Nat → Option LoopSpec
  | _ => none
theorem ww4 (a0 : ByteArray) (a1 : ByteArray) : var G10.shallow vth Try.f166 [.agg [.str a0, .str a1]] [] = vxq (a0, a1) (fun (y : Bool) => some ⟨.ret, [.bool y], []⟩) := by rw [wmy]; kernel_rfl
theorem wy7 : vao G10.shallow ⟨0, 18, vth⟩ (Try.f166.body.getD .skip) :=
  vah (ids := []) (by kernel_rfl) (by kernel_rfl) trivial
theorem w1b : val Try.prog 166 wm4 := by
  refine told G10_ok.shallow follows Try.func166 (c := Try.f166.body.getD .skip) (by kernel_rfl) ?_
  intro args s k r hk
  unfold wm4 at hk
  rcases vag hk with ⟨p, q, rfl, rfl⟩ | hk
  · exact ⟨vth, (wtc (p.1.1, p.1.2.1)).map _, ww4 p.1.1 p.1.2.1, wy7⟩
  cases hk
def G11 : Glob := G10.add 166 wm4
theorem G11_ok : GlobOk Try.prog G11 := G10_ok.add ⟨Try.f166, Try.func166, by kernel_rfl, by kernel_rfl⟩ w1b
def vbj : Nat → Option LoopSpec
  | 5000012 => some ⟨[1, 2], [], fun vals st k => vaj [.bp 0 0, .bool] [.box [.int .i64, .int .i64, .int .i64, .int .i64, .lst tRange, .lst tWrite, .bool, .str]] vals st (fun p q => vb8 (p.2.1, q.1.1, q.1.2.1, q.1.2.2.1, q.1.2.2.2.1, q.1.2.2.2.2.1, q.1.2.2.2.2.2.1, q.1.2.2.2.2.2.2.1, q.1.2.2.2.2.2.2.2.1) (fun z => k .ret [.bp 0 0, .bool z.1] [.box [.int .i64 z.2.1, .int .i64 z.2.2.1, .int .i64 z.2.2.2.1, .int .i64 z.2.2.2.2.1, .lst tRange z.2.2.2.2.2.1, .lst tWrite z.2.2.2.2.2.2.1, .bool z.2.2.2.2.2.2.2.1, .str z.2.2.2.2.2.2.2.2]]))
      (none)⟩
  | 5000010 => some ⟨[1, 2], [], fun vals st k => vaj [.bp 0 0, .bool] [.box [.int .i64, .int .i64, .int .i64, .int .i64, .lst tRange, .lst tWrite, .bool, .str]] vals st (fun p q => vb5 (p.2.1, q.1.1, q.1.2.1, q.1.2.2.1, q.1.2.2.2.1, q.1.2.2.2.2.1, q.1.2.2.2.2.2.1, q.1.2.2.2.2.2.2.1, q.1.2.2.2.2.2.2.2.1) (fun z => k .ret [.bp 0 0, .bool z.1] [.box [.int .i64 z.2.1, .int .i64 z.2.2.1, .int .i64 z.2.2.2.1, .int .i64 z.2.2.2.2.1, .lst tRange z.2.2.2.2.2.1, .lst tWrite z.2.2.2.2.2.2.1, .bool z.2.2.2.2.2.2.2.1, .str z.2.2.2.2.2.2.2.2]]))
      (none)⟩
  | 0 => some ⟨[1, 2, 3], [], fun vals st k => vaj [.bp 0 0, .bool, .int .i64] [.box [.int .i64, .int .i64, .int .i64, .int .i64, .lst tRange, .lst tWrite, .bool, .str]] vals st (fun p q => vai vld Fuel (p.2.1, p.2.2.1, q.1.1, q.1.2.1, q.1.2.2.1, q.1.2.2.2.1, q.1.2.2.2.2.1, q.1.2.2.2.2.2.1, q.1.2.2.2.2.2.2.1, q.1.2.2.2.2.2.2.2.1) (Sum.elim (fun z => k .ret [.bp 0 0, .bool z.1, .int .i64 z.2.1] [.box [.int .i64 z.2.2.1, .int .i64 z.2.2.2.1, .int .i64 z.2.2.2.2.1, .int .i64 z.2.2.2.2.2.1, .lst tRange z.2.2.2.2.2.2.1, .lst tWrite z.2.2.2.2.2.2.2.1, .bool z.2.2.2.2.2.2.2.2.1, .str z.2.2.2.2.2.2.2.2.2]]) (fun z => k (.exit 0) [.bp 0 0, .bool z.1, .int .i64 z.2.1] [.box [.int .i64 z.2.2.1, .int .i64 z.2.2.2.1, .int .i64 z.2.2.2.2.1, .int .i64 z.2.2.2.2.2.1, .lst tRange z.2.2.2.2.2.2.1, .lst tWrite z.2.2.2.2.2.2.2.1, .bool z.2.2.2.2.2.2.2.2.1, .str z.2.2.2.2.2.2.2.2.2]])))
      (none)⟩
  | 5000003 => some ⟨[1, 2], [], fun vals st k => vaj [.bp 0 0, .bool] [.box [.int .i64, .int .i64, .int .i64, .int .i64, .lst tRange, .lst tWrite, .bool, .str]] vals st (fun p q => vdf (p.2.1, q.1.1, q.1.2.1, q.1.2.2.1, q.1.2.2.2.1, q.1.2.2.2.2.1, q.1.2.2.2.2.2.1, q.1.2.2.2.2.2.2.1, q.1.2.2.2.2.2.2.2.1) (fun z => k .ret [.bp 0 0, .bool z.1] [.box [.int .i64 z.2.1, .int .i64 z.2.2.1, .int .i64 z.2.2.2.1, .int .i64 z.2.2.2.2.1, .lst tRange z.2.2.2.2.2.1, .lst tWrite z.2.2.2.2.2.2.1, .bool z.2.2.2.2.2.2.2.1, .str z.2.2.2.2.2.2.2.2]]))
      (none)⟩
  | _ => none
def vp2 : q25T → List AV := (fun x => [.bp 0 0, .bool x.1])
def vqm : q25T → St := (fun x => [.box [.int .i64 x.2.1, .int .i64 x.2.2.1, .int .i64 x.2.2.2.1, .int .i64 x.2.2.2.2.1, .lst tRange x.2.2.2.2.2.1, .lst tWrite x.2.2.2.2.2.2.1, .bool x.2.2.2.2.2.2.2.1, .str x.2.2.2.2.2.2.2.2]])
def vhn : q25T → Out × List AV × St := (fun z => (.ret, [.bp 0 0, .bool z.1], [.box [.int .i64 z.2.1, .int .i64 z.2.2.1, .int .i64 z.2.2.2.1, .int .i64 z.2.2.2.2.1, .lst tRange z.2.2.2.2.2.1, .lst tWrite z.2.2.2.2.2.2.1, .bool z.2.2.2.2.2.2.2.1, .str z.2.2.2.2.2.2.2.2]]))
theorem vzl (x : q25T) : exec G11.shallow ⟨0, 95, vbj⟩ (vad Try.f78 5000012) (va3 ⟨0, 95, vbj⟩ [1, 2] []) (va0 (vay 95) [1, 2] (vp2 x)) (vqm x) = vb8 x (fun z => some ⟨(vhn z).1, (vhn z).2.1, (vhn z).2.2⟩) := by
  kernel_rfl
theorem vy8 : ∀ sp, (vbj 5000012) = some sp → vep G11.shallow ⟨0, 95, vbj⟩ sp (vad Try.f78 5000012) := by
  intro sp hsp vals st k r h
  cases hsp
  dsimp only at h
  rcases vae h with ⟨p, q, rfl, rfl, h⟩ | h
  · exact va5 vex vp2 vqm vhn vzl (p.2.1, q.1.1, q.1.2.1, q.1.2.2.1, q.1.2.2.2.1, q.1.2.2.2.2.1, q.1.2.2.2.2.2.1, q.1.2.2.2.2.2.2.1, q.1.2.2.2.2.2.2.2.1) _ k r (fun z => rfl) h
  cases h
def vqx : q25T → List AV := (fun x => [.bp 0 0, .bool x.1])
def vov : q25T → St := (fun x => [.box [.int .i64 x.2.1, .int .i64 x.2.2.1, .int .i64 x.2.2.2.1, .int .i64 x.2.2.2.2.1, .lst tRange x.2.2.2.2.2.1, .lst tWrite x.2.2.2.2.2.2.1, .bool x.2.2.2.2.2.2.2.1, .str x.2.2.2.2.2.2.2.2]])
def vg9 : q25T → Out × List AV × St := (fun z => (.ret, [.bp 0 0, .bool z.1], [.box [.int .i64 z.2.1, .int .i64 z.2.2.1, .int .i64 z.2.2.2.1, .int .i64 z.2.2.2.2.1, .lst tRange z.2.2.2.2.2.1, .lst tWrite z.2.2.2.2.2.2.1, .bool z.2.2.2.2.2.2.2.1, .str z.2.2.2.2.2.2.2.2]]))
theorem vys (x : q25T) : exec G11.shallow ⟨0, 95, vbj⟩ (vad Try.f78 5000010) (va3 ⟨0, 95, vbj⟩ [1, 2] []) (va0 (vay 95) [1, 2] (vqx x)) (vov x) = vb5 x (fun z => some ⟨(vg9 z).1, (vg9 z).2.1, (vg9 z).2.2⟩) := by
  kernel_rfl
theorem vzk : ∀ sp, (vbj 5000010) = some sp → vep G11.shallow ⟨0, 95, vbj⟩ sp (vad Try.f78 5000010) := by
  intro sp hsp vals st k r h
  cases hsp
  dsimp only at h
  rcases vae h with ⟨p, q, rfl, rfl, h⟩ | h
  · exact va5 ve1 vqx vov vg9 vys (p.2.1, q.1.1, q.1.2.1, q.1.2.2.1, q.1.2.2.2.1, q.1.2.2.2.2.1, q.1.2.2.2.2.2.1, q.1.2.2.2.2.2.2.1, q.1.2.2.2.2.2.2.2.1) _ k r (fun z => rfl) h
  cases h
def v9t : q26T → List AV := (fun x => [.bp 0 0, .bool x.1, .int .i64 x.2.1])
def wak : q26T → St := (fun x => [.box [.int .i64 x.2.2.1, .int .i64 x.2.2.2.1, .int .i64 x.2.2.2.2.1, .int .i64 x.2.2.2.2.2.1, .lst tRange x.2.2.2.2.2.2.1, .lst tWrite x.2.2.2.2.2.2.2.1, .bool x.2.2.2.2.2.2.2.2.1, .str x.2.2.2.2.2.2.2.2.2]])
def v2n : (q26T ⊕ q26T) → Out × List AV × St := (Sum.elim (fun z => (.ret, [.bp 0 0, .bool z.1, .int .i64 z.2.1], [.box [.int .i64 z.2.2.1, .int .i64 z.2.2.2.1, .int .i64 z.2.2.2.2.1, .int .i64 z.2.2.2.2.2.1, .lst tRange z.2.2.2.2.2.2.1, .lst tWrite z.2.2.2.2.2.2.2.1, .bool z.2.2.2.2.2.2.2.2.1, .str z.2.2.2.2.2.2.2.2.2]])) (fun z => ((.exit 0), [.bp 0 0, .bool z.1, .int .i64 z.2.1], [.box [.int .i64 z.2.2.1, .int .i64 z.2.2.2.1, .int .i64 z.2.2.2.2.1, .int .i64 z.2.2.2.2.2.1, .lst tRange z.2.2.2.2.2.2.1, .lst tWrite z.2.2.2.2.2.2.2.1, .bool z.2.2.2.2.2.2.2.2.1, .str z.2.2.2.2.2.2.2.2.2]])))
theorem won (x : q26T) : exec G11.shallow ⟨0, 95, vbj⟩ (vad Try.f78 0) (va3 ⟨0, 95, vbj⟩ [1, 2, 3] []) (va0 (vay 95) [1, 2, 3] (v9t x)) (wak x) = vld x (Sum.elim (fun y => some ⟨.norm, v9t y, wak y⟩) fun z => some ⟨(v2n z).1, (v2n z).2.1, (v2n z).2.2⟩) := by
  kernel_rfl
theorem wr7 : ∀ sp, (vbj 0) = some sp → vbc G11.shallow ⟨0, 95, vbj⟩ sp (vad Try.f78 0) := by
  intro sp hsp vals st k r h
  cases hsp
  dsimp only at h
  rcases vae h with ⟨p, q, rfl, rfl, h⟩ | h
  · exact vaq wex v9t wak v2n (fun z => by rcases z with z | z <;> (intro h; cases h)) won Fuel (p.2.1, p.2.2.1, q.1.1, q.1.2.1, q.1.2.2.1, q.1.2.2.2.1, q.1.2.2.2.2.1, q.1.2.2.2.2.2.1, q.1.2.2.2.2.2.2.1, q.1.2.2.2.2.2.2.2.1) _ k r (fun z => by rcases z with z | z <;> rfl) h
  cases h
def vqe : q25T → List AV := (fun x => [.bp 0 0, .bool x.1])
def vqp : q25T → St := (fun x => [.box [.int .i64 x.2.1, .int .i64 x.2.2.1, .int .i64 x.2.2.2.1, .int .i64 x.2.2.2.2.1, .lst tRange x.2.2.2.2.2.1, .lst tWrite x.2.2.2.2.2.2.1, .bool x.2.2.2.2.2.2.2.1, .str x.2.2.2.2.2.2.2.2]])
def vhm : q25T → Out × List AV × St := (fun z => (.ret, [.bp 0 0, .bool z.1], [.box [.int .i64 z.2.1, .int .i64 z.2.2.1, .int .i64 z.2.2.2.1, .int .i64 z.2.2.2.2.1, .lst tRange z.2.2.2.2.2.1, .lst tWrite z.2.2.2.2.2.2.1, .bool z.2.2.2.2.2.2.2.1, .str z.2.2.2.2.2.2.2.2]]))
theorem vz1 (x : q25T) : exec G11.shallow ⟨0, 95, vbj⟩ (vad Try.f78 5000003) (va3 ⟨0, 95, vbj⟩ [1, 2] []) (va0 (vay 95) [1, 2] (vqe x)) (vqp x) = vdf x (fun z => some ⟨(vhm z).1, (vhm z).2.1, (vhm z).2.2⟩) := by
  kernel_rfl
theorem v0n : ∀ sp, (vbj 5000003) = some sp → vep G11.shallow ⟨0, 95, vbj⟩ sp (vad Try.f78 5000003) := by
  intro sp hsp vals st k r h
  cases hsp
  dsimp only at h
  rcases vae h with ⟨p, q, rfl, rfl, h⟩ | h
  · exact va5 vo0 vqe vqp vhm vz1 (p.2.1, q.1.1, q.1.2.1, q.1.2.2.1, q.1.2.2.2.1, q.1.2.2.2.2.1, q.1.2.2.2.2.2.1, q.1.2.2.2.2.2.2.1, q.1.2.2.2.2.2.2.2.1) _ k r (fun z => rfl) h
  cases h
theorem ww1 (a0 : Int) (a1 : Int) (a2 : Int) (a3 : Int) (a4 : (List van)) (a5 : (List vam)) (a6 : Bool) (a7 : ByteArray) : var G11.shallow vbj Try.f78 [.agg [.int .i64 a0, .int .i64 a1, .int .i64 a2, .int .i64 a3, .lst tRange a4, .lst tWrite a5, .bool a6, .str a7]] [] = vmx (a0, (a1, (a2, (a3, (a4, (a5, (a6, a7))))))) (fun (y : Bool) => some ⟨.ret, [.bool y], []⟩) := by rw [wjl]; kernel_rfl
theorem w2b : vao G11.shallow ⟨0, 95, vbj⟩ (Try.f78.body.getD .skip) :=
  vah (ids := [5000012, 5000010, 0, 5000003]) (by kernel_rfl) (by kernel_rfl) ⟨vy8, ⟨vzk, ⟨wr7, ⟨v0n, trivial⟩⟩⟩⟩
theorem wzm : val Try.prog 78 wma := by
  refine told G11_ok.shallow follows Try.func78 (c := Try.f78.body.getD .skip) (by kernel_rfl) ?_
  intro args s k r hk
  unfold wma at hk
  rcases vag hk with ⟨p, q, rfl, rfl⟩ | hk
  · exact ⟨vbj, (weo (p.1.1, (p.1.2.1, (p.1.2.2.1, (p.1.2.2.2.1, (p.1.2.2.2.2.1, (p.1.2.2.2.2.2.1, (p.1.2.2.2.2.2.2.1, p.1.2.2.2.2.2.2.2.1)))))))).map _, ww1 p.1.1 p.1.2.1 p.1.2.2.1 p.1.2.2.2.1 p.1.2.2.2.2.1 p.1.2.2.2.2.2.1 p.1.2.2.2.2.2.2.1 p.1.2.2.2.2.2.2.2.1, w2b⟩
  cases hk
def G12 : Glob := G11.add 78 wma
theorem G12_ok : GlobOk Try.prog G12 := G11_ok.add ⟨Try.f78, Try.func78, by kernel_rfl, by kernel_rfl⟩ wzm
def va6 : Nat → Option LoopSpec
  | 5000025 => some ⟨[4, 5, 6, 7, 8], [none, none, none, none, none, none, none, none, none, some tRange, some tWrite, none, none, none, none, none, none, none, none, none, some tRange], fun vals st k => vaj [.bp 0 0, .dead, .dead, .bp 1 0, .bp 2 0] [.box [.int .i64, .int .i64, .int .i64, .int .i64, .own 3, .own 4, .bool, .str], .box [.str, .int .i64, .bool], .box [.int .i64, .int .i64, .int .i64, .int .i64, .own 5, .own 6, .bool, .str], .arr tRange, .arr tWrite, .arr tRange, .arr tWrite] vals st (fun p q => vfk (q.1.1, q.1.2.1, q.1.2.2.1, q.1.2.2.2.1, q.1.2.2.2.2.2.2.1, q.1.2.2.2.2.2.2.2.1, q.2.1.1, q.2.1.2.1, q.2.1.2.2.1, q.2.2.1.1, q.2.2.1.2.1, q.2.2.1.2.2.1, q.2.2.1.2.2.2.1, q.2.2.1.2.2.2.2.2.2.1, q.2.2.1.2.2.2.2.2.2.2.1, q.2.2.2.1, q.2.2.2.2.1, q.2.2.2.2.2.1, q.2.2.2.2.2.2.1) (fun z => k .ret [.bp 0 0, .int .i64 z.1, .bool z.2.1, .bp 1 0, .bp 2 0] [.box [.int .i64 z.2.2.1, .int .i64 z.2.2.2.1, .int .i64 z.2.2.2.2.1, .int .i64 z.2.2.2.2.2.1, .own 3, .own 4, .bool z.2.2.2.2.2.2.1, .str z.2.2.2.2.2.2.2.1], .box [.str z.2.2.2.2.2.2.2.2.1, .int .i64 z.2.2.2.2.2.2.2.2.2.1, .bool z.2.2.2.2.2.2.2.2.2.2.1], .box [.int .i64 z.2.2.2.2.2.2.2.2.2.2.2.1, .int .i64 z.2.2.2.2.2.2.2.2.2.2.2.2.1, .int .i64 z.2.2.2.2.2.2.2.2.2.2.2.2.2.1, .int .i64 z.2.2.2.2.2.2.2.2.2.2.2.2.2.2.1, .own 3, .own 4, .bool z.2.2.2.2.2.2.2.2.2.2.2.2.2.2.2.1, .str z.2.2.2.2.2.2.2.2.2.2.2.2.2.2.2.2.1], .arr tRange z.2.2.2.2.2.2.2.2.2.2.2.2.2.2.2.2.2.1, .arr tWrite z.2.2.2.2.2.2.2.2.2.2.2.2.2.2.2.2.2.2]))
      (none)⟩
  | 6000001 => some ⟨[4, 7, 8, 9, 10], [none, none, none, none, none, none, none, none, none, none, none, none, none, none, none, none, none, none, none, none, some tRange], fun vals st k => vaj [.bp 0 0, .bp 1 0, .bp 2 0, .int .i64, .int .i64] [.box [.int .i64, .int .i64, .int .i64, .int .i64, .nilS, .nilS, .bool, .str], .box [.str, .int .i64, .bool], .box [.int .i64, .int .i64, .int .i64, .int .i64, .own 3, .nilS, .bool, .str], .arr tRange] vals st (fun p q => vec (p.2.2.2.1, p.2.2.2.2.1, q.1.1, q.1.2.1, q.1.2.2.1, q.1.2.2.2.1, q.1.2.2.2.2.2.2.1, q.1.2.2.2.2.2.2.2.1, q.2.1.1, q.2.1.2.1, q.2.1.2.2.1, q.2.2.1.1, q.2.2.1.2.1, q.2.2.1.2.2.1, q.2.2.1.2.2.2.1, q.2.2.1.2.2.2.2.2.2.1, q.2.2.1.2.2.2.2.2.2.2.1, q.2.2.2.1) (fun z => k .norm [.bp 0 0, .bp 1 0, .bp 2 0, .int .i64 z.1, .int .i64 z.2.1] [.box [.int .i64 z.2.2.1, .int .i64 z.2.2.2.1, .int .i64 z.2.2.2.2.1, .int .i64 z.2.2.2.2.2.1, .nilS, .nilS, .bool z.2.2.2.2.2.2.1, .str z.2.2.2.2.2.2.2.1], .box [.str z.2.2.2.2.2.2.2.2.1, .int .i64 z.2.2.2.2.2.2.2.2.2.1, .bool z.2.2.2.2.2.2.2.2.2.2.1], .box [.int .i64 z.2.2.2.2.2.2.2.2.2.2.2.1, .int .i64 z.2.2.2.2.2.2.2.2.2.2.2.2.1, .int .i64 z.2.2.2.2.2.2.2.2.2.2.2.2.2.1, .int .i64 z.2.2.2.2.2.2.2.2.2.2.2.2.2.2.1, .own 3, .nilS, .bool z.2.2.2.2.2.2.2.2.2.2.2.2.2.2.2.1, .str z.2.2.2.2.2.2.2.2.2.2.2.2.2.2.2.2.1], .arr tRange z.2.2.2.2.2.2.2.2.2.2.2.2.2.2.2.2.2]))
      (none)⟩
  | 0 => some ⟨[4, 7, 8, 9, 10], [none, none, none, none, none, none, none, none, none, none, none, none, none, none, none, none, none, none, none, none, some tRange], fun vals st k => vaj [.bp 0 0, .bp 1 0, .bp 2 0, .int .i64, .int .i64] [.box [.int .i64, .int .i64, .int .i64, .int .i64, .nilS, .nilS, .bool, .str], .box [.str, .int .i64, .bool], .box [.int .i64, .int .i64, .int .i64, .int .i64, .own 3, .nilS, .bool, .str], .arr tRange] vals st (fun p q => vai vkl Fuel (p.2.2.2.1, p.2.2.2.2.1, q.1.1, q.1.2.1, q.1.2.2.1, q.1.2.2.2.1, q.1.2.2.2.2.2.2.1, q.1.2.2.2.2.2.2.2.1, q.2.1.1, q.2.1.2.1, q.2.1.2.2.1, q.2.2.1.1, q.2.2.1.2.1, q.2.2.1.2.2.1, q.2.2.1.2.2.2.1, q.2.2.1.2.2.2.2.2.2.1, q.2.2.1.2.2.2.2.2.2.2.1, q.2.2.2.1) (fun z => k (.exit 0) [.bp 0 0, .bp 1 0, .bp 2 0, .int .i64 z.1, .int .i64 z.2.1] [.box [.int .i64 z.2.2.1, .int .i64 z.2.2.2.1, .int .i64 z.2.2.2.2.1, .int .i64 z.2.2.2.2.2.1, .nilS, .nilS, .bool z.2.2.2.2.2.2.1, .str z.2.2.2.2.2.2.2.1], .box [.str z.2.2.2.2.2.2.2.2.1, .int .i64 z.2.2.2.2.2.2.2.2.2.1, .bool z.2.2.2.2.2.2.2.2.2.2.1], .box [.int .i64 z.2.2.2.2.2.2.2.2.2.2.2.1, .int .i64 z.2.2.2.2.2.2.2.2.2.2.2.2.1, .int .i64 z.2.2.2.2.2.2.2.2.2.2.2.2.2.1, .int .i64 z.2.2.2.2.2.2.2.2.2.2.2.2.2.2.1, .own 3, .nilS, .bool z.2.2.2.2.2.2.2.2.2.2.2.2.2.2.2.1, .str z.2.2.2.2.2.2.2.2.2.2.2.2.2.2.2.2.1], .arr tRange z.2.2.2.2.2.2.2.2.2.2.2.2.2.2.2.2.2]))
      (none)⟩
  | 6000003 => some ⟨[4, 7, 8, 12, 13], [none, none, none, none, none, none, none, none, none, none, none, none, none, none, none, none, none, none, none, none, some tRange, some tWrite], fun vals st k => vaj [.bp 0 0, .bp 1 0, .bp 2 0, .int .i64, .int .i64] [.box [.int .i64, .int .i64, .int .i64, .int .i64, .nilS, .nilS, .bool, .str], .box [.str, .int .i64, .bool], .box [.int .i64, .int .i64, .int .i64, .int .i64, .own 3, .own 4, .bool, .str], .arr tRange, .arr tWrite] vals st (fun p q => veo (p.2.2.2.1, p.2.2.2.2.1, q.1.1, q.1.2.1, q.1.2.2.1, q.1.2.2.2.1, q.1.2.2.2.2.2.2.1, q.1.2.2.2.2.2.2.2.1, q.2.1.1, q.2.1.2.1, q.2.1.2.2.1, q.2.2.1.1, q.2.2.1.2.1, q.2.2.1.2.2.1, q.2.2.1.2.2.2.1, q.2.2.1.2.2.2.2.2.2.1, q.2.2.1.2.2.2.2.2.2.2.1, q.2.2.2.1, q.2.2.2.2.1) (fun z => k .norm [.bp 0 0, .bp 1 0, .bp 2 0, .int .i64 z.1, .int .i64 z.2.1] [.box [.int .i64 z.2.2.1, .int .i64 z.2.2.2.1, .int .i64 z.2.2.2.2.1, .int .i64 z.2.2.2.2.2.1, .nilS, .nilS, .bool z.2.2.2.2.2.2.1, .str z.2.2.2.2.2.2.2.1], .box [.str z.2.2.2.2.2.2.2.2.1, .int .i64 z.2.2.2.2.2.2.2.2.2.1, .bool z.2.2.2.2.2.2.2.2.2.2.1], .box [.int .i64 z.2.2.2.2.2.2.2.2.2.2.2.1, .int .i64 z.2.2.2.2.2.2.2.2.2.2.2.2.1, .int .i64 z.2.2.2.2.2.2.2.2.2.2.2.2.2.1, .int .i64 z.2.2.2.2.2.2.2.2.2.2.2.2.2.2.1, .own 3, .own 4, .bool z.2.2.2.2.2.2.2.2.2.2.2.2.2.2.2.1, .str z.2.2.2.2.2.2.2.2.2.2.2.2.2.2.2.2.1], .arr tRange z.2.2.2.2.2.2.2.2.2.2.2.2.2.2.2.2.2.1, .arr tWrite z.2.2.2.2.2.2.2.2.2.2.2.2.2.2.2.2.2.2]))
      (none)⟩
  | 2 => some ⟨[4, 7, 8, 12, 13], [none, none, none, none, none, none, none, none, none, none, none, none, none, none, none, none, none, none, none, none, some tRange, some tWrite], fun vals st k => vaj [.bp 0 0, .bp 1 0, .bp 2 0, .int .i64, .int .i64] [.box [.int .i64, .int .i64, .int .i64, .int .i64, .nilS, .nilS, .bool, .str], .box [.str, .int .i64, .bool], .box [.int .i64, .int .i64, .int .i64, .int .i64, .own 3, .own 4, .bool, .str], .arr tRange, .arr tWrite] vals st (fun p q => vai vk7 Fuel (p.2.2.2.1, p.2.2.2.2.1, q.1.1, q.1.2.1, q.1.2.2.1, q.1.2.2.2.1, q.1.2.2.2.2.2.2.1, q.1.2.2.2.2.2.2.2.1, q.2.1.1, q.2.1.2.1, q.2.1.2.2.1, q.2.2.1.1, q.2.2.1.2.1, q.2.2.1.2.2.1, q.2.2.1.2.2.2.1, q.2.2.1.2.2.2.2.2.2.1, q.2.2.1.2.2.2.2.2.2.2.1, q.2.2.2.1, q.2.2.2.2.1) (fun z => k (.exit 2) [.bp 0 0, .bp 1 0, .bp 2 0, .int .i64 z.1, .int .i64 z.2.1] [.box [.int .i64 z.2.2.1, .int .i64 z.2.2.2.1, .int .i64 z.2.2.2.2.1, .int .i64 z.2.2.2.2.2.1, .nilS, .nilS, .bool z.2.2.2.2.2.2.1, .str z.2.2.2.2.2.2.2.1], .box [.str z.2.2.2.2.2.2.2.2.1, .int .i64 z.2.2.2.2.2.2.2.2.2.1, .bool z.2.2.2.2.2.2.2.2.2.2.1], .box [.int .i64 z.2.2.2.2.2.2.2.2.2.2.2.1, .int .i64 z.2.2.2.2.2.2.2.2.2.2.2.2.1, .int .i64 z.2.2.2.2.2.2.2.2.2.2.2.2.2.1, .int .i64 z.2.2.2.2.2.2.2.2.2.2.2.2.2.2.1, .own 3, .own 4, .bool z.2.2.2.2.2.2.2.2.2.2.2.2.2.2.2.1, .str z.2.2.2.2.2.2.2.2.2.2.2.2.2.2.2.2.1], .arr tRange z.2.2.2.2.2.2.2.2.2.2.2.2.2.2.2.2.2.1, .arr tWrite z.2.2.2.2.2.2.2.2.2.2.2.2.2.2.2.2.2.2]))
      (none)⟩
  | 1000025 => some ⟨[0], [], fun _ _ _ => none⟩
  | 3000000 => some ⟨[], [none, none, none, none, some tRange, some tWrite], fun _ _ _ => none⟩
  | _ => none
def vn9 : q55T → List AV := (fun x => [.bp 0 0, .dead, .dead, .bp 1 0, .bp 2 0])
def vpr : q55T → St := (fun x => [.box [.int .i64 x.1, .int .i64 x.2.1, .int .i64 x.2.2.1, .int .i64 x.2.2.2.1, .own 3, .own 4, .bool x.2.2.2.2.1, .str x.2.2.2.2.2.1], .box [.str x.2.2.2.2.2.2.1, .int .i64 x.2.2.2.2.2.2.2.1, .bool x.2.2.2.2.2.2.2.2.1], .box [.int .i64 x.2.2.2.2.2.2.2.2.2.1, .int .i64 x.2.2.2.2.2.2.2.2.2.2.1, .int .i64 x.2.2.2.2.2.2.2.2.2.2.2.1, .int .i64 x.2.2.2.2.2.2.2.2.2.2.2.2.1, .own 5, .own 6, .bool x.2.2.2.2.2.2.2.2.2.2.2.2.2.1, .str x.2.2.2.2.2.2.2.2.2.2.2.2.2.2.1], .arr tRange x.2.2.2.2.2.2.2.2.2.2.2.2.2.2.2.1, .arr tWrite x.2.2.2.2.2.2.2.2.2.2.2.2.2.2.2.2.1, .arr tRange x.2.2.2.2.2.2.2.2.2.2.2.2.2.2.2.2.2.1, .arr tWrite x.2.2.2.2.2.2.2.2.2.2.2.2.2.2.2.2.2.2])
def vgp : q39T → Out × List AV × St := (fun z => (.ret, [.bp 0 0, .int .i64 z.1, .bool z.2.1, .bp 1 0, .bp 2 0], [.box [.int .i64 z.2.2.1, .int .i64 z.2.2.2.1, .int .i64 z.2.2.2.2.1, .int .i64 z.2.2.2.2.2.1, .own 3, .own 4, .bool z.2.2.2.2.2.2.1, .str z.2.2.2.2.2.2.2.1], .box [.str z.2.2.2.2.2.2.2.2.1, .int .i64 z.2.2.2.2.2.2.2.2.2.1, .bool z.2.2.2.2.2.2.2.2.2.2.1], .box [.int .i64 z.2.2.2.2.2.2.2.2.2.2.2.1, .int .i64 z.2.2.2.2.2.2.2.2.2.2.2.2.1, .int .i64 z.2.2.2.2.2.2.2.2.2.2.2.2.2.1, .int .i64 z.2.2.2.2.2.2.2.2.2.2.2.2.2.2.1, .own 3, .own 4, .bool z.2.2.2.2.2.2.2.2.2.2.2.2.2.2.2.1, .str z.2.2.2.2.2.2.2.2.2.2.2.2.2.2.2.2.1], .arr tRange z.2.2.2.2.2.2.2.2.2.2.2.2.2.2.2.2.2.1, .arr tWrite z.2.2.2.2.2.2.2.2.2.2.2.2.2.2.2.2.2.2]))
theorem vz9 (x : q55T) : exec G12.shallow ⟨0, 115, va6⟩ (vad Try.f218 5000025) (va3 ⟨0, 115, va6⟩ [4, 5, 6, 7, 8] [none, none, none, none, none, none, none, none, none, some tRange, some tWrite, none, none, none, none, none, none, none, none, none, some tRange]) (va0 (vay 115) [4, 5, 6, 7, 8] (vn9 x)) (vpr x) = vfk x (fun z => some ⟨(vgp z).1, (vgp z).2.1, (vgp z).2.2⟩) := by
  kernel_rfl
theorem vz2 : ∀ sp, (va6 5000025) = some sp → vep G12.shallow ⟨0, 115, va6⟩ sp (vad Try.f218 5000025) := by
  intro sp hsp vals st k r h
  cases hsp
  dsimp only at h
  rcases vae h with ⟨p, q, rfl, rfl, h⟩ | h
  · exact va5 vqg vn9 vpr vgp vz9 (q.1.1, q.1.2.1, q.1.2.2.1, q.1.2.2.2.1, q.1.2.2.2.2.2.2.1, q.1.2.2.2.2.2.2.2.1, q.2.1.1, q.2.1.2.1, q.2.1.2.2.1, q.2.2.1.1, q.2.2.1.2.1, q.2.2.1.2.2.1, q.2.2.1.2.2.2.1, q.2.2.1.2.2.2.2.2.2.1, q.2.2.1.2.2.2.2.2.2.2.1, q.2.2.2.1, q.2.2.2.2.1, q.2.2.2.2.2.1, q.2.2.2.2.2.2.1) _ k r (fun z => rfl) h
  cases h
def vot : q60T → List AV := (fun x => [.bp 0 0, .bp 1 0, .bp 2 0, .int .i64 x.1, .int .i64 x.2.1])
def vqj : q60T → St := (fun x => [.box [.int .i64 x.2.2.1, .int .i64 x.2.2.2.1, .int .i64 x.2.2.2.2.1, .int .i64 x.2.2.2.2.2.1, .nilS, .nilS, .bool x.2.2.2.2.2.2.1, .str x.2.2.2.2.2.2.2.1], .box [.str x.2.2.2.2.2.2.2.2.1, .int .i64 x.2.2.2.2.2.2.2.2.2.1, .bool x.2.2.2.2.2.2.2.2.2.2.1], .box [.int .i64 x.2.2.2.2.2.2.2.2.2.2.2.1, .int .i64 x.2.2.2.2.2.2.2.2.2.2.2.2.1, .int .i64 x.2.2.2.2.2.2.2.2.2.2.2.2.2.1, .int .i64 x.2.2.2.2.2.2.2.2.2.2.2.2.2.2.1, .own 3, .nilS, .bool x.2.2.2.2.2.2.2.2.2.2.2.2.2.2.2.1, .str x.2.2.2.2.2.2.2.2.2.2.2.2.2.2.2.2.1], .arr tRange x.2.2.2.2.2.2.2.2.2.2.2.2.2.2.2.2.2])
def vhh : q60T → Out × List AV × St := (fun z => (.norm, [.bp 0 0, .bp 1 0, .bp 2 0, .int .i64 z.1, .int .i64 z.2.1], [.box [.int .i64 z.2.2.1, .int .i64 z.2.2.2.1, .int .i64 z.2.2.2.2.1, .int .i64 z.2.2.2.2.2.1, .nilS, .nilS, .bool z.2.2.2.2.2.2.1, .str z.2.2.2.2.2.2.2.1], .box [.str z.2.2.2.2.2.2.2.2.1, .int .i64 z.2.2.2.2.2.2.2.2.2.1, .bool z.2.2.2.2.2.2.2.2.2.2.1], .box [.int .i64 z.2.2.2.2.2.2.2.2.2.2.2.1, .int .i64 z.2.2.2.2.2.2.2.2.2.2.2.2.1, .int .i64 z.2.2.2.2.2.2.2.2.2.2.2.2.2.1, .int .i64 z.2.2.2.2.2.2.2.2.2.2.2.2.2.2.1, .own 3, .nilS, .bool z.2.2.2.2.2.2.2.2.2.2.2.2.2.2.2.1, .str z.2.2.2.2.2.2.2.2.2.2.2.2.2.2.2.2.1], .arr tRange z.2.2.2.2.2.2.2.2.2.2.2.2.2.2.2.2.2]))
theorem vz0 (x : q60T) : exec G12.shallow ⟨0, 115, va6⟩ (vad Try.f218 6000001) (va3 ⟨0, 115, va6⟩ [4, 7, 8, 9, 10] [none, none, none, none, none, none, none, none, none, none, none, none, none, none, none, none, none, none, none, none, some tRange]) (va0 (vay 115) [4, 7, 8, 9, 10] (vot x)) (vqj x) = vec x (fun z => some ⟨(vhh z).1, (vhh z).2.1, (vhh z).2.2⟩) := by
  kernel_rfl
theorem vzn : ∀ sp, (va6 6000001) = some sp → vep G12.shallow ⟨0, 115, va6⟩ sp (vad Try.f218 6000001) := by
  intro sp hsp vals st k r h
  cases hsp
  dsimp only at h
  rcases vae h with ⟨p, q, rfl, rfl, h⟩ | h
  · exact va5 vqn vot vqj vhh vz0 (p.2.2.2.1, p.2.2.2.2.1, q.1.1, q.1.2.1, q.1.2.2.1, q.1.2.2.2.1, q.1.2.2.2.2.2.2.1, q.1.2.2.2.2.2.2.2.1, q.2.1.1, q.2.1.2.1, q.2.1.2.2.1, q.2.2.1.1, q.2.2.1.2.1, q.2.2.1.2.2.1, q.2.2.1.2.2.2.1, q.2.2.1.2.2.2.2.2.2.1, q.2.2.1.2.2.2.2.2.2.2.1, q.2.2.2.1) _ k r (fun z => rfl) h
  cases h
def v9l : q60T → List AV := (fun x => [.bp 0 0, .bp 1 0, .bp 2 0, .int .i64 x.1, .int .i64 x.2.1])
def v88 : q60T → St := (fun x => [.box [.int .i64 x.2.2.1, .int .i64 x.2.2.2.1, .int .i64 x.2.2.2.2.1, .int .i64 x.2.2.2.2.2.1, .nilS, .nilS, .bool x.2.2.2.2.2.2.1, .str x.2.2.2.2.2.2.2.1], .box [.str x.2.2.2.2.2.2.2.2.1, .int .i64 x.2.2.2.2.2.2.2.2.2.1, .bool x.2.2.2.2.2.2.2.2.2.2.1], .box [.int .i64 x.2.2.2.2.2.2.2.2.2.2.2.1, .int .i64 x.2.2.2.2.2.2.2.2.2.2.2.2.1, .int .i64 x.2.2.2.2.2.2.2.2.2.2.2.2.2.1, .int .i64 x.2.2.2.2.2.2.2.2.2.2.2.2.2.2.1, .own 3, .nilS, .bool x.2.2.2.2.2.2.2.2.2.2.2.2.2.2.2.1, .str x.2.2.2.2.2.2.2.2.2.2.2.2.2.2.2.2.1], .arr tRange x.2.2.2.2.2.2.2.2.2.2.2.2.2.2.2.2.2])
def v3i : q60T → Out × List AV × St := (fun z => ((.exit 0), [.bp 0 0, .bp 1 0, .bp 2 0, .int .i64 z.1, .int .i64 z.2.1], [.box [.int .i64 z.2.2.1, .int .i64 z.2.2.2.1, .int .i64 z.2.2.2.2.1, .int .i64 z.2.2.2.2.2.1, .nilS, .nilS, .bool z.2.2.2.2.2.2.1, .str z.2.2.2.2.2.2.2.1], .box [.str z.2.2.2.2.2.2.2.2.1, .int .i64 z.2.2.2.2.2.2.2.2.2.1, .bool z.2.2.2.2.2.2.2.2.2.2.1], .box [.int .i64 z.2.2.2.2.2.2.2.2.2.2.2.1, .int .i64 z.2.2.2.2.2.2.2.2.2.2.2.2.1, .int .i64 z.2.2.2.2.2.2.2.2.2.2.2.2.2.1, .int .i64 z.2.2.2.2.2.2.2.2.2.2.2.2.2.2.1, .own 3, .nilS, .bool z.2.2.2.2.2.2.2.2.2.2.2.2.2.2.2.1, .str z.2.2.2.2.2.2.2.2.2.2.2.2.2.2.2.2.1], .arr tRange z.2.2.2.2.2.2.2.2.2.2.2.2.2.2.2.2.2]))
theorem wqd (x : q60T) : exec G12.shallow ⟨0, 115, va6⟩ (vad Try.f218 0) (va3 ⟨0, 115, va6⟩ [4, 7, 8, 9, 10] [none, none, none, none, none, none, none, none, none, none, none, none, none, none, none, none, none, none, none, none, some tRange]) (va0 (vay 115) [4, 7, 8, 9, 10] (v9l x)) (v88 x) = vkl x (Sum.elim (fun y => some ⟨.norm, v9l y, v88 y⟩) fun z => some ⟨(v3i z).1, (v3i z).2.1, (v3i z).2.2⟩) := by
  kernel_rfl
theorem wr6 : ∀ sp, (va6 0) = some sp → vbc G12.shallow ⟨0, 115, va6⟩ sp (vad Try.f218 0) := by
  intro sp hsp vals st k r h
  cases hsp
  dsimp only at h
  rcases vae h with ⟨p, q, rfl, rfl, h⟩ | h
  · exact vaq wf8 v9l v88 v3i (fun z => by (intro h; cases h)) wqd Fuel (p.2.2.2.1, p.2.2.2.2.1, q.1.1, q.1.2.1, q.1.2.2.1, q.1.2.2.2.1, q.1.2.2.2.2.2.2.1, q.1.2.2.2.2.2.2.2.1, q.2.1.1, q.2.1.2.1, q.2.1.2.2.1, q.2.2.1.1, q.2.2.1.2.1, q.2.2.1.2.2.1, q.2.2.1.2.2.2.1, q.2.2.1.2.2.2.2.2.2.1, q.2.2.1.2.2.2.2.2.2.2.1, q.2.2.2.1) _ k r (fun z => rfl) h
  cases h
def vps : q59T → List AV := (fun x => [.bp 0 0, .bp 1 0, .bp 2 0, .int .i64 x.1, .int .i64 x.2.1])
def voa : q59T → St := (fun x => [.box [.int .i64 x.2.2.1, .int .i64 x.2.2.2.1, .int .i64 x.2.2.2.2.1, .int .i64 x.2.2.2.2.2.1, .nilS, .nilS, .bool x.2.2.2.2.2.2.1, .str x.2.2.2.2.2.2.2.1], .box [.str x.2.2.2.2.2.2.2.2.1, .int .i64 x.2.2.2.2.2.2.2.2.2.1, .bool x.2.2.2.2.2.2.2.2.2.2.1], .box [.int .i64 x.2.2.2.2.2.2.2.2.2.2.2.1, .int .i64 x.2.2.2.2.2.2.2.2.2.2.2.2.1, .int .i64 x.2.2.2.2.2.2.2.2.2.2.2.2.2.1, .int .i64 x.2.2.2.2.2.2.2.2.2.2.2.2.2.2.1, .own 3, .own 4, .bool x.2.2.2.2.2.2.2.2.2.2.2.2.2.2.2.1, .str x.2.2.2.2.2.2.2.2.2.2.2.2.2.2.2.2.1], .arr tRange x.2.2.2.2.2.2.2.2.2.2.2.2.2.2.2.2.2.1, .arr tWrite x.2.2.2.2.2.2.2.2.2.2.2.2.2.2.2.2.2.2])
def vgt : q59T → Out × List AV × St := (fun z => (.norm, [.bp 0 0, .bp 1 0, .bp 2 0, .int .i64 z.1, .int .i64 z.2.1], [.box [.int .i64 z.2.2.1, .int .i64 z.2.2.2.1, .int .i64 z.2.2.2.2.1, .int .i64 z.2.2.2.2.2.1, .nilS, .nilS, .bool z.2.2.2.2.2.2.1, .str z.2.2.2.2.2.2.2.1], .box [.str z.2.2.2.2.2.2.2.2.1, .int .i64 z.2.2.2.2.2.2.2.2.2.1, .bool z.2.2.2.2.2.2.2.2.2.2.1], .box [.int .i64 z.2.2.2.2.2.2.2.2.2.2.2.1, .int .i64 z.2.2.2.2.2.2.2.2.2.2.2.2.1, .int .i64 z.2.2.2.2.2.2.2.2.2.2.2.2.2.1, .int .i64 z.2.2.2.2.2.2.2.2.2.2.2.2.2.2.1, .own 3, .own 4, .bool z.2.2.2.2.2.2.2.2.2.2.2.2.2.2.2.1, .str z.2.2.2.2.2.2.2.2.2.2.2.2.2.2.2.2.1], .arr tRange z.2.2.2.2.2.2.2.2.2.2.2.2.2.2.2.2.2.1, .arr tWrite z.2.2.2.2.2.2.2.2.2.2.2.2.2.2.2.2.2.2]))
theorem vzz (x : q59T) : exec G12.shallow ⟨0, 115, va6⟩ (vad Try.f218 6000003) (va3 ⟨0, 115, va6⟩ [4, 7, 8, 12, 13] [none, none, none, none, none, none, none, none, none, none, none, none, none, none, none, none, none, none, none, none, some tRange, some tWrite]) (va0 (vay 115) [4, 7, 8, 12, 13] (vps x)) (voa x) = veo x (fun z => some ⟨(vgt z).1, (vgt z).2.1, (vgt z).2.2⟩) := by
  kernel_rfl
theorem v0l : ∀ sp, (va6 6000003) = some sp → vep G12.shallow ⟨0, 115, va6⟩ sp (vad Try.f218 6000003) := by
  intro sp hsp vals st k r h
  cases hsp
  dsimp only at h
  rcases vae h with ⟨p, q, rfl, rfl, h⟩ | h
  · exact va5 vqv vps voa vgt vzz (p.2.2.2.1, p.2.2.2.2.1, q.1.1, q.1.2.1, q.1.2.2.1, q.1.2.2.2.1, q.1.2.2.2.2.2.2.1, q.1.2.2.2.2.2.2.2.1, q.2.1.1, q.2.1.2.1, q.2.1.2.2.1, q.2.2.1.1, q.2.2.1.2.1, q.2.2.1.2.2.1, q.2.2.1.2.2.2.1, q.2.2.1.2.2.2.2.2.2.1, q.2.2.1.2.2.2.2.2.2.2.1, q.2.2.2.1, q.2.2.2.2.1) _ k r (fun z => rfl) h
  cases h
def wbk : q59T → List AV := (fun x => [.bp 0 0, .bp 1 0, .bp 2 0, .int .i64 x.1, .int .i64 x.2.1])
def v8o : q59T → St := (fun x => [.box [.int .i64 x.2.2.1, .int .i64 x.2.2.2.1, .int .i64 x.2.2.2.2.1, .int .i64 x.2.2.2.2.2.1, .nilS, .nilS, .bool x.2.2.2.2.2.2.1, .str x.2.2.2.2.2.2.2.1], .box [.str x.2.2.2.2.2.2.2.2.1, .int .i64 x.2.2.2.2.2.2.2.2.2.1, .bool x.2.2.2.2.2.2.2.2.2.2.1], .box [.int .i64 x.2.2.2.2.2.2.2.2.2.2.2.1, .int .i64 x.2.2.2.2.2.2.2.2.2.2.2.2.1, .int .i64 x.2.2.2.2.2.2.2.2.2.2.2.2.2.1, .int .i64 x.2.2.2.2.2.2.2.2.2.2.2.2.2.2.1, .own 3, .own 4, .bool x.2.2.2.2.2.2.2.2.2.2.2.2.2.2.2.1, .str x.2.2.2.2.2.2.2.2.2.2.2.2.2.2.2.2.1], .arr tRange x.2.2.2.2.2.2.2.2.2.2.2.2.2.2.2.2.2.1, .arr tWrite x.2.2.2.2.2.2.2.2.2.2.2.2.2.2.2.2.2.2])
def v4w : q59T → Out × List AV × St := (fun z => ((.exit 2), [.bp 0 0, .bp 1 0, .bp 2 0, .int .i64 z.1, .int .i64 z.2.1], [.box [.int .i64 z.2.2.1, .int .i64 z.2.2.2.1, .int .i64 z.2.2.2.2.1, .int .i64 z.2.2.2.2.2.1, .nilS, .nilS, .bool z.2.2.2.2.2.2.1, .str z.2.2.2.2.2.2.2.1], .box [.str z.2.2.2.2.2.2.2.2.1, .int .i64 z.2.2.2.2.2.2.2.2.2.1, .bool z.2.2.2.2.2.2.2.2.2.2.1], .box [.int .i64 z.2.2.2.2.2.2.2.2.2.2.2.1, .int .i64 z.2.2.2.2.2.2.2.2.2.2.2.2.1, .int .i64 z.2.2.2.2.2.2.2.2.2.2.2.2.2.1, .int .i64 z.2.2.2.2.2.2.2.2.2.2.2.2.2.2.1, .own 3, .own 4, .bool z.2.2.2.2.2.2.2.2.2.2.2.2.2.2.2.1, .str z.2.2.2.2.2.2.2.2.2.2.2.2.2.2.2.2.1], .arr tRange z.2.2.2.2.2.2.2.2.2.2.2.2.2.2.2.2.2.1, .arr tWrite z.2.2.2.2.2.2.2.2.2.2.2.2.2.2.2.2.2.2]))
theorem woz (x : q59T) : exec G12.shallow ⟨0, 115, va6⟩ (vad Try.f218 2) (va3 ⟨0, 115, va6⟩ [4, 7, 8, 12, 13] [none, none, none, none, none, none, none, none, none, none, none, none, none, none, none, none, none, none, none, none, some tRange, some tWrite]) (va0 (vay 115) [4, 7, 8, 12, 13] (wbk x)) (v8o x) = vk7 x (Sum.elim (fun y => some ⟨.norm, wbk y, v8o y⟩) fun z => some ⟨(v4w z).1, (v4w z).2.1, (v4w z).2.2⟩) := by
  kernel_rfl
theorem wnw : ∀ sp, (va6 2) = some sp → vbc G12.shallow ⟨0, 115, va6⟩ sp (vad Try.f218 2) := by
  intro sp hsp vals st k r h
  cases hsp
  dsimp only at h
  rcases vae h with ⟨p, q, rfl, rfl, h⟩ | h
  · exact vaq wbt wbk v8o v4w (fun z => by (intro h; cases h)) woz Fuel (p.2.2.2.1, p.2.2.2.2.1, q.1.1, q.1.2.1, q.1.2.2.1, q.1.2.2.2.1, q.1.2.2.2.2.2.2.1, q.1.2.2.2.2.2.2.2.1, q.2.1.1, q.2.1.2.1, q.2.1.2.2.1, q.2.2.1.1, q.2.2.1.2.1, q.2.2.1.2.2.1, q.2.2.1.2.2.2.1, q.2.2.1.2.2.2.2.2.2.1, q.2.2.1.2.2.2.2.2.2.2.1, q.2.2.2.1, q.2.2.2.2.1) _ k r (fun z => rfl) h
  cases h
theorem w3n (a0 : ByteArray) (a1 : Int) : var G12.shallow va6 Try.f218 [.str a0, .int .i64 a1] [] = v2b a0 a1 (fun (y : q56T) => some ⟨.ret, [.tup [.agg [.int .i64 y.1, .int .i64 y.2.1, .int .i64 y.2.2.1, .int .i64 y.2.2.2.1, .own 0, .own 1, .bool y.2.2.2.2.1, .str y.2.2.2.2.2.1], .int .i64 y.2.2.2.2.2.2.1, .bool y.2.2.2.2.2.2.2.1]], [.arr tRange y.2.2.2.2.2.2.2.2.1, .arr tWrite y.2.2.2.2.2.2.2.2.2]⟩) := by rw [wnc]; kernel_rfl
theorem w02 : vao G12.shallow ⟨0, 115, va6⟩ (Try.f218.body.getD .skip) :=
  vah (ids := [5000025, 6000001, 0, 6000003, 2]) (by kernel_rfl) (by kernel_rfl) ⟨vz2, ⟨vzn, ⟨wr6, ⟨v0l, ⟨wnw, trivial⟩⟩⟩⟩⟩
theorem w1c : val Try.prog 218 wji := by
  refine told G12_ok.shallow follows Try.func218 (c := Try.f218.body.getD .skip) (by kernel_rfl) ?_
  intro args s k r hk
  unfold wji at hk
  rcases vag hk with ⟨p, q, rfl, rfl⟩ | hk
  · exact ⟨va6, (wul p.1 p.2.1).map _, w3n p.1 p.2.1, w02⟩
  cases hk
def G13 : Glob := G12.add 218 wji
theorem G13_ok : GlobOk Try.prog G13 := G12_ok.add ⟨Try.f218, Try.func218, by kernel_rfl, by kernel_rfl⟩ w1c
def vc8 : Nat → Option LoopSpec
  | 6000001 => some ⟨[0, 1, 4, 5, 6, 7], [none, none, some tTxn], fun vals st k => vaj [.bp 0 0, .int .i64, .own 1, .own 2, .int .i64, .int .i64] [.box [.str, .int .i64, .bool], .dep tTxn 0, .arr tTxn] vals st (fun p q => vdg (p.2.1, p.2.2.2.2.1, p.2.2.2.2.2.1, q.1.1, q.1.2.1, q.1.2.2.1, q.2.1, q.2.2.1) (Sum.elim (fun z => k .norm [.bp 0 0, .int .i64 z.1, .own 1, .own 2, .int .i64 z.2.1, .int .i64 z.2.2.1] [.box [.str z.2.2.2.1, .int .i64 z.2.2.2.2.1, .bool z.2.2.2.2.2.1], .dep tTxn z.2.2.2.2.2.2.1 0, .arr tTxn z.2.2.2.2.2.2.2]) (fun z => k .ret [.bp 0 0, .int .i64 z.1, .own 1, .own 1, .int .i64 z.2.1, .int .i64 z.2.2.1] [.box [.str z.2.2.2.1, .int .i64 z.2.2.2.2.1, .bool z.2.2.2.2.2.1], .arr tTxn z.2.2.2.2.2.2])))
      (none)⟩
  | 0 => some ⟨[0, 1, 4, 5, 6, 7], [none, none, some tTxn], fun vals st k => vaj [.bp 0 0, .int .i64, .own 1, .own 2, .int .i64, .int .i64] [.box [.str, .int .i64, .bool], .dep tTxn 0, .arr tTxn] vals st (fun p q => vai viz Fuel (p.2.1, p.2.2.2.2.1, p.2.2.2.2.2.1, q.1.1, q.1.2.1, q.1.2.2.1, q.2.1, q.2.2.1) (Sum.elim (fun z => k (.exit 0) [.bp 0 0, .int .i64 z.1, .own 1, .own 2, .int .i64 z.2.1, .int .i64 z.2.2.1] [.box [.str z.2.2.2.1, .int .i64 z.2.2.2.2.1, .bool z.2.2.2.2.2.1], .dep tTxn z.2.2.2.2.2.2.1 0, .arr tTxn z.2.2.2.2.2.2.2]) (fun z => k .ret [.bp 0 0, .int .i64 z.1, .own 1, .own 1, .int .i64 z.2.1, .int .i64 z.2.2.1] [.box [.str z.2.2.2.1, .int .i64 z.2.2.2.2.1, .bool z.2.2.2.2.2.1], .arr tTxn z.2.2.2.2.2.2])))
      (none)⟩
  | _ => none
def vqq : q51T → List AV := (fun x => [.bp 0 0, .int .i64 x.1, .own 1, .own 2, .int .i64 x.2.1, .int .i64 x.2.2.1])
def vp1 : q51T → St := (fun x => [.box [.str x.2.2.2.1, .int .i64 x.2.2.2.2.1, .bool x.2.2.2.2.2.1], .dep tTxn x.2.2.2.2.2.2.1 0, .arr tTxn x.2.2.2.2.2.2.2])
def vg0 : (q51T ⊕ q52T) → Out × List AV × St := (Sum.elim (fun z => (.norm, [.bp 0 0, .int .i64 z.1, .own 1, .own 2, .int .i64 z.2.1, .int .i64 z.2.2.1], [.box [.str z.2.2.2.1, .int .i64 z.2.2.2.2.1, .bool z.2.2.2.2.2.1], .dep tTxn z.2.2.2.2.2.2.1 0, .arr tTxn z.2.2.2.2.2.2.2])) (fun z => (.ret, [.bp 0 0, .int .i64 z.1, .own 1, .own 1, .int .i64 z.2.1, .int .i64 z.2.2.1], [.box [.str z.2.2.2.1, .int .i64 z.2.2.2.2.1, .bool z.2.2.2.2.2.1], .arr tTxn z.2.2.2.2.2.2])))
theorem vzb (x : q51T) : exec G13.shallow ⟨1, 59, vc8⟩ (vad Try.f154 6000001) (va3 ⟨1, 59, vc8⟩ [0, 1, 4, 5, 6, 7] [none, none, some tTxn]) (va0 (vay 59) [0, 1, 4, 5, 6, 7] (vqq x)) (vp1 x) = vdg x (fun z => some ⟨(vg0 z).1, (vg0 z).2.1, (vg0 z).2.2⟩) := by
  kernel_rfl
theorem vz4 : ∀ sp, (vc8 6000001) = some sp → vep G13.shallow ⟨1, 59, vc8⟩ sp (vad Try.f154 6000001) := by
  intro sp hsp vals st k r h
  cases hsp
  dsimp only at h
  rcases vae h with ⟨p, q, rfl, rfl, h⟩ | h
  · exact va5 vqi vqq vp1 vg0 vzb (p.2.1, p.2.2.2.2.1, p.2.2.2.2.2.1, q.1.1, q.1.2.1, q.1.2.2.1, q.2.1, q.2.2.1) _ k r (fun z => by rcases z with z | z <;> rfl) h
  cases h
def v8h : q51T → List AV := (fun x => [.bp 0 0, .int .i64 x.1, .own 1, .own 2, .int .i64 x.2.1, .int .i64 x.2.2.1])
def v96 : q51T → St := (fun x => [.box [.str x.2.2.2.1, .int .i64 x.2.2.2.2.1, .bool x.2.2.2.2.2.1], .dep tTxn x.2.2.2.2.2.2.1 0, .arr tTxn x.2.2.2.2.2.2.2])
def v38 : (q51T ⊕ q52T) → Out × List AV × St := (Sum.elim (fun z => ((.exit 0), [.bp 0 0, .int .i64 z.1, .own 1, .own 2, .int .i64 z.2.1, .int .i64 z.2.2.1], [.box [.str z.2.2.2.1, .int .i64 z.2.2.2.2.1, .bool z.2.2.2.2.2.1], .dep tTxn z.2.2.2.2.2.2.1 0, .arr tTxn z.2.2.2.2.2.2.2])) (fun z => (.ret, [.bp 0 0, .int .i64 z.1, .own 1, .own 1, .int .i64 z.2.1, .int .i64 z.2.2.1], [.box [.str z.2.2.2.1, .int .i64 z.2.2.2.2.1, .bool z.2.2.2.2.2.1], .arr tTxn z.2.2.2.2.2.2])))
theorem wow (x : q51T) : exec G13.shallow ⟨1, 59, vc8⟩ (vad Try.f154 0) (va3 ⟨1, 59, vc8⟩ [0, 1, 4, 5, 6, 7] [none, none, some tTxn]) (va0 (vay 59) [0, 1, 4, 5, 6, 7] (v8h x)) (v96 x) = viz x (Sum.elim (fun y => some ⟨.norm, v8h y, v96 y⟩) fun z => some ⟨(v38 z).1, (v38 z).2.1, (v38 z).2.2⟩) := by
  kernel_rfl
theorem wq8 : ∀ sp, (vc8 0) = some sp → vbc G13.shallow ⟨1, 59, vc8⟩ sp (vad Try.f154 0) := by
  intro sp hsp vals st k r h
  cases hsp
  dsimp only at h
  rcases vae h with ⟨p, q, rfl, rfl, h⟩ | h
  · exact vaq wb2 v8h v96 v38 (fun z => by rcases z with z | z <;> (intro h; cases h)) wow Fuel (p.2.1, p.2.2.2.2.1, p.2.2.2.2.2.1, q.1.1, q.1.2.1, q.1.2.2.1, q.2.1, q.2.2.1) _ k r (fun z => by rcases z with z | z <;> rfl) h
  cases h
theorem wzj (a0 : Int) (a1 : ByteArray) (a2 : Int) (a3 : Bool) : var G13.shallow vc8 Try.f154 [.bp 0 0, .int .i64 a0] [.box [.str a1, .int .i64 a2, .bool a3]] = vuv a0 a1 a2 a3 (fun (y : q28T) => some ⟨.ret, [.own 1], [.box [.str y.1, .int .i64 y.2.1, .bool y.2.2.1], .arr tTxn y.2.2.2]⟩) := by rw [wjs]; kernel_rfl
theorem w3l : vao G13.shallow ⟨1, 59, vc8⟩ (Try.f154.body.getD .skip) :=
  vah (ids := [6000001, 0]) (by kernel_rfl) (by kernel_rfl) ⟨vz4, ⟨wq8, trivial⟩⟩
theorem wx1 : val Try.prog 154 wi3 := by
  refine told G13_ok.shallow follows Try.func154 (c := Try.f154.body.getD .skip) (by kernel_rfl) ?_
  intro args s k r hk
  unfold wi3 at hk
  rcases vag hk with ⟨p, q, rfl, rfl⟩ | hk
  · exact ⟨vc8, (wko p.2.1 q.1.1 q.1.2.1 q.1.2.2.1).map _, wzj p.2.1 q.1.1 q.1.2.1 q.1.2.2.1, w3l⟩
  cases hk
def G14 : Glob := G13.add 154 wi3
theorem G14_ok : GlobOk Try.prog G14 := G13_ok.add ⟨Try.f154, Try.func154, by kernel_rfl, by kernel_rfl⟩ wx1
def vc5 : Nat → Option LoopSpec
  | 5000007 => some ⟨[0, 2, 3, 4], [], fun vals st k => vaj [.lst tVersion, .bool, .int .i64, .bp 0 0] [.box [.str, .str, .bool, .int .i64]] vals st (fun p q => vcn (p.1, p.2.1, p.2.2.1, q.1.1, q.1.2.1, q.1.2.2.1, q.1.2.2.2.1) (Sum.elim (fun z => k .ret [.lst tVersion z.1, .bool z.2.1, .int .i64 z.2.2.1, .bp 0 0] [.box [.str z.2.2.2.1, .str z.2.2.2.2.1, .bool z.2.2.2.2.2.1, .int .i64 z.2.2.2.2.2.2]]) (fun z => k .norm [.lst tVersion z.1, .bool z.2.1, .int .i64 z.2.2.1, .bp 0 0] [.box [.str z.2.2.2.1, .str z.2.2.2.2.1, .bool z.2.2.2.2.2.1, .int .i64 z.2.2.2.2.2.2]])))
      (none)⟩
  | 0 => some ⟨[0, 2, 3], [], fun vals st k => vaj [.lst tVersion, .bool, .int .i64] [] vals st (fun p q => vai vlj Fuel (p.1, p.2.1, p.2.2.1) (Sum.elim (fun z => k .ret [.lst tVersion z.1, .bool z.2.1, .int .i64 z.2.2] []) (fun z => k (.exit 0) [.lst tVersion z.1, .bool z.2.1, .int .i64 z.2.2] [])))
      (none)⟩
  | 2000007 => some ⟨[0, 2, 4, 6, 8, 10, 12, 14, 16, 18, 20, 22, 24, 26, 28, 30, 32, 34, 36, 38, 40, 42, 44, 46, 48, 50, 52, 54, 56, 58, 60, 62, 64, 66, 68], [], fun _ _ _ => none⟩
  | _ => none
def vn8 : q10T → List AV := (fun x => [.lst tVersion x.1, .bool x.2.1, .int .i64 x.2.2.1, .bp 0 0])
def vpw : q10T → St := (fun x => [.box [.str x.2.2.2.1, .str x.2.2.2.2.1, .bool x.2.2.2.2.2.1, .int .i64 x.2.2.2.2.2.2]])
def vhe : (q10T ⊕ q10T) → Out × List AV × St := (Sum.elim (fun z => (.ret, [.lst tVersion z.1, .bool z.2.1, .int .i64 z.2.2.1, .bp 0 0], [.box [.str z.2.2.2.1, .str z.2.2.2.2.1, .bool z.2.2.2.2.2.1, .int .i64 z.2.2.2.2.2.2]])) (fun z => (.norm, [.lst tVersion z.1, .bool z.2.1, .int .i64 z.2.2.1, .bp 0 0], [.box [.str z.2.2.2.1, .str z.2.2.2.2.1, .bool z.2.2.2.2.2.1, .int .i64 z.2.2.2.2.2.2]])))
theorem vy7 (x : q10T) : exec G14.shallow ⟨0, 78, vc5⟩ (vad Try.f164 5000007) (va3 ⟨0, 78, vc5⟩ [0, 2, 3, 4] []) (va0 (vay 78) [0, 2, 3, 4] (vn8 x)) (vpw x) = vcn x (fun z => some ⟨(vhe z).1, (vhe z).2.1, (vhe z).2.2⟩) := by
  kernel_rfl
theorem v0o : ∀ sp, (vc5 5000007) = some sp → vep G14.shallow ⟨0, 78, vc5⟩ sp (vad Try.f164 5000007) := by
  intro sp hsp vals st k r h
  cases hsp
  dsimp only at h
  rcases vae h with ⟨p, q, rfl, rfl, h⟩ | h
  · exact va5 vjr vn8 vpw vhe vy7 (p.1, p.2.1, p.2.2.1, q.1.1, q.1.2.1, q.1.2.2.1, q.1.2.2.2.1) _ k r (fun z => by rcases z with z | z <;> rfl) h
  cases h
def wah : ((List vac) × Bool × Int) → List AV := (fun x => [.lst tVersion x.1, .bool x.2.1, .int .i64 x.2.2])
def v98 : ((List vac) × Bool × Int) → St := (fun x => [])
def v48 : (((List vac) × Bool × Int) ⊕ ((List vac) × Bool × Int)) → Out × List AV × St := (Sum.elim (fun z => (.ret, [.lst tVersion z.1, .bool z.2.1, .int .i64 z.2.2], [])) (fun z => ((.exit 0), [.lst tVersion z.1, .bool z.2.1, .int .i64 z.2.2], [])))
theorem wsb (x : ((List vac) × Bool × Int)) : exec G14.shallow ⟨0, 78, vc5⟩ (vad Try.f164 0) (va3 ⟨0, 78, vc5⟩ [0, 2, 3] []) (va0 (vay 78) [0, 2, 3] (wah x)) (v98 x) = vlj x (Sum.elim (fun y => some ⟨.norm, wah y, v98 y⟩) fun z => some ⟨(v48 z).1, (v48 z).2.1, (v48 z).2.2⟩) := by
  kernel_rfl
theorem wsj : ∀ sp, (vc5 0) = some sp → vbc G14.shallow ⟨0, 78, vc5⟩ sp (vad Try.f164 0) := by
  intro sp hsp vals st k r h
  cases hsp
  dsimp only at h
  rcases vae h with ⟨p, q, rfl, rfl, h⟩ | h
  · exact vaq wb5 wah v98 v48 (fun z => by rcases z with z | z <;> (intro h; cases h)) wsb Fuel (p.1, p.2.1, p.2.2.1) _ k r (fun z => by rcases z with z | z <;> rfl) h
  cases h
theorem wwl (a0 : (List vac)) : var G14.shallow vc5 Try.f164 [.lst tVersion a0] [] = vvg a0 (fun (y : Bool) => some ⟨.ret, [.bool y], []⟩) := by rw [wl1]; kernel_rfl
theorem w03 : vao G14.shallow ⟨0, 78, vc5⟩ (Try.f164.body.getD .skip) :=
  vah (ids := [5000007, 0]) (by kernel_rfl) (by kernel_rfl) ⟨v0o, ⟨wsj, trivial⟩⟩
theorem wyw : val Try.prog 164 wlq := by
  refine told G14_ok.shallow follows Try.func164 (c := Try.f164.body.getD .skip) (by kernel_rfl) ?_
  intro args s k r hk
  unfold wlq at hk
  rcases vag hk with ⟨p, q, rfl, rfl⟩ | hk
  · exact ⟨vc5, (wtw p.1).map _, wwl p.1, w03⟩
  cases hk
def G15 : Glob := G14.add 164 wlq
theorem G15_ok : GlobOk Try.prog G15 := G14_ok.add ⟨Try.f164, Try.func164, by kernel_rfl, by kernel_rfl⟩ wyw
def vaz : Nat → Option LoopSpec
  | 0 => some ⟨[1, 2, 3], [], fun vals st k => vaj [.bp 0 0, .bool, .int .i64] [.box [.lst tVersion, .lst tTxn, .lst tTxn, .int .i64, .int .i64]] vals st (fun p q => vai vkg Fuel (p.2.1, p.2.2.1, q.1.1, q.1.2.1, q.1.2.2.1, q.1.2.2.2.1, q.1.2.2.2.2.1) (Sum.elim (fun z => k .ret [.bp 0 0, .bool z.1, .int .i64 z.2.1] [.box [.lst tVersion z.2.2.1, .lst tTxn z.2.2.2.1, .lst tTxn z.2.2.2.2.1, .int .i64 z.2.2.2.2.2.1, .int .i64 z.2.2.2.2.2.2]]) (fun z => k (.exit 0) [.bp 0 0, .bool z.1, .int .i64 z.2.1] [.box [.lst tVersion z.2.2.1, .lst tTxn z.2.2.2.1, .lst tTxn z.2.2.2.2.1, .int .i64 z.2.2.2.2.2.1, .int .i64 z.2.2.2.2.2.2]])))
      (none)⟩
  | 2 => some ⟨[1, 2, 4, 5], [], fun vals st k => vaj [.bp 0 0, .bool, .own 1, .int .i64] [.box [.lst tVersion, .lst tTxn, .lst tTxn, .int .i64, .int .i64], .arr (.int .i64)] vals st (fun p q => vai vki Fuel (p.2.1, p.2.2.2.1, q.1.1, q.1.2.1, q.1.2.2.1, q.1.2.2.2.1, q.1.2.2.2.2.1, q.2.1) (Sum.elim (fun z => k .ret [.bp 0 0, .bool z.1, .own 1, .int .i64 z.2.1] [.box [.lst tVersion z.2.2.1, .lst tTxn z.2.2.2.1, .lst tTxn z.2.2.2.2.1, .int .i64 z.2.2.2.2.2.1, .int .i64 z.2.2.2.2.2.2.1], .arr (.int .i64) z.2.2.2.2.2.2.2]) (fun z => k (.exit 2) [.bp 0 0, .bool z.1, .own 1, .int .i64 z.2.1] [.box [.lst tVersion z.2.2.1, .lst tTxn z.2.2.2.1, .lst tTxn z.2.2.2.2.1, .int .i64 z.2.2.2.2.2.1, .int .i64 z.2.2.2.2.2.2.1], .arr (.int .i64) z.2.2.2.2.2.2.2])))
      (none)⟩
  | 4 => some ⟨[1, 2, 4, 7], [], fun vals st k => vaj [.bp 0 0, .bool, .own 1, .int .i64] [.box [.lst tVersion, .lst tTxn, .lst tTxn, .int .i64, .int .i64], .arr (.int .i64)] vals st (fun p q => vai vk9 Fuel (p.2.1, p.2.2.2.1, q.1.1, q.1.2.1, q.1.2.2.1, q.1.2.2.2.1, q.1.2.2.2.2.1, q.2.1) (Sum.elim (fun z => k .ret [.bp 0 0, .bool z.1, .own 1, .int .i64 z.2.1] [.box [.lst tVersion z.2.2.1, .lst tTxn z.2.2.2.1, .lst tTxn z.2.2.2.2.1, .int .i64 z.2.2.2.2.2.1, .int .i64 z.2.2.2.2.2.2.1], .arr (.int .i64) z.2.2.2.2.2.2.2]) (fun z => k (.exit 4) [.bp 0 0, .bool z.1, .own 1, .int .i64 z.2.1] [.box [.lst tVersion z.2.2.1, .lst tTxn z.2.2.2.1, .lst tTxn z.2.2.2.2.1, .int .i64 z.2.2.2.2.2.1, .int .i64 z.2.2.2.2.2.2.1], .arr (.int .i64) z.2.2.2.2.2.2.2])))
      (none)⟩
  | 8 => some ⟨[1, 2, 4, 9, 10], [], fun vals st k => vaj [.bp 0 0, .bool, .own 1, .int .i64, .int .i64] [.box [.lst tVersion, .lst tTxn, .lst tTxn, .int .i64, .int .i64], .arr (.int .i64)] vals st (fun p q => vai vmi Fuel (p.2.1, p.2.2.2.1, p.2.2.2.2.1, q.1.1, q.1.2.1, q.1.2.2.1, q.1.2.2.2.1, q.1.2.2.2.2.1, q.2.1) (Sum.elim (fun z => k .ret [.bp 0 0, .bool z.1, .own 1, .int .i64 z.2.1, .int .i64 z.2.2.1] [.box [.lst tVersion z.2.2.2.1, .lst tTxn z.2.2.2.2.1, .lst tTxn z.2.2.2.2.2.1, .int .i64 z.2.2.2.2.2.2.1, .int .i64 z.2.2.2.2.2.2.2.1], .arr (.int .i64) z.2.2.2.2.2.2.2.2]) (fun z => k (.exit 8) [.bp 0 0, .bool z.1, .own 1, .int .i64 z.2.1, .int .i64 z.2.2.1] [.box [.lst tVersion z.2.2.2.1, .lst tTxn z.2.2.2.2.1, .lst tTxn z.2.2.2.2.2.1, .int .i64 z.2.2.2.2.2.2.1, .int .i64 z.2.2.2.2.2.2.2.1], .arr (.int .i64) z.2.2.2.2.2.2.2.2])))
      (none)⟩
  | 6 => some ⟨[1, 2, 4, 9], [], fun vals st k => vaj [.bp 0 0, .bool, .own 1, .int .i64] [.box [.lst tVersion, .lst tTxn, .lst tTxn, .int .i64, .int .i64], .arr (.int .i64)] vals st (fun p q => vai vlf Fuel (p.2.1, p.2.2.2.1, q.1.1, q.1.2.1, q.1.2.2.1, q.1.2.2.2.1, q.1.2.2.2.2.1, q.2.1) (Sum.elim (fun z => k (.exit 6) [.bp 0 0, .bool z.1, .own 1, .int .i64 z.2.1] [.box [.lst tVersion z.2.2.1, .lst tTxn z.2.2.2.1, .lst tTxn z.2.2.2.2.1, .int .i64 z.2.2.2.2.2.1, .int .i64 z.2.2.2.2.2.2.1], .arr (.int .i64) z.2.2.2.2.2.2.2]) (fun z => k .ret [.bp 0 0, .bool z.1, .own 1, .int .i64 z.2.1] [.box [.lst tVersion z.2.2.1, .lst tTxn z.2.2.2.1, .lst tTxn z.2.2.2.2.1, .int .i64 z.2.2.2.2.2.1, .int .i64 z.2.2.2.2.2.2.1], .arr (.int .i64) z.2.2.2.2.2.2.2])))
      (none)⟩
  | 5000003 => some ⟨[1, 2], [], fun vals st k => vaj [.bp 0 0, .bool] [.box [.lst tVersion, .lst tTxn, .lst tTxn, .int .i64, .int .i64]] vals st (fun p q => vdo (p.2.1, q.1.1, q.1.2.1, q.1.2.2.1, q.1.2.2.2.1, q.1.2.2.2.2.1) (fun z => k .ret [.bp 0 0, .bool z.1] [.box [.lst tVersion z.2.1, .lst tTxn z.2.2.1, .lst tTxn z.2.2.2.1, .int .i64 z.2.2.2.2.1, .int .i64 z.2.2.2.2.2]]))
      (none)⟩
  | 2000006 => some ⟨[0, 2, 4, 6, 8, 10, 12, 14, 16], [], fun _ _ _ => none⟩
  | 2000013 => some ⟨[0, 3, 4, 6, 8, 10, 12, 14, 16, 18, 20, 22, 24, 26, 28, 30, 32, 34, 36, 38, 40, 42, 44, 46, 48, 50, 52, 54, 56, 58, 60], [], fun _ _ _ => none⟩
  | 2000020 => some ⟨[0, 3, 4, 6, 8, 10, 12, 14, 16, 18, 20, 22, 24, 26, 28, 30, 32, 34, 36, 38, 40, 42, 44, 46, 48, 50, 52, 54, 56, 58, 60], [], fun _ _ _ => none⟩
  | 2000029 => some ⟨[0, 2, 4, 6, 8, 10, 12, 14, 16], [], fun _ _ _ => none⟩
  | _ => none
def v9i : q21T → List AV := (fun x => [.bp 0 0, .bool x.1, .int .i64 x.2.1])
def v70 : q21T → St := (fun x => [.box [.lst tVersion x.2.2.1, .lst tTxn x.2.2.2.1, .lst tTxn x.2.2.2.2.1, .int .i64 x.2.2.2.2.2.1, .int .i64 x.2.2.2.2.2.2]])
def v23 : (q21T ⊕ q21T) → Out × List AV × St := (Sum.elim (fun z => (.ret, [.bp 0 0, .bool z.1, .int .i64 z.2.1], [.box [.lst tVersion z.2.2.1, .lst tTxn z.2.2.2.1, .lst tTxn z.2.2.2.2.1, .int .i64 z.2.2.2.2.2.1, .int .i64 z.2.2.2.2.2.2]])) (fun z => ((.exit 0), [.bp 0 0, .bool z.1, .int .i64 z.2.1], [.box [.lst tVersion z.2.2.1, .lst tTxn z.2.2.2.1, .lst tTxn z.2.2.2.2.1, .int .i64 z.2.2.2.2.2.1, .int .i64 z.2.2.2.2.2.2]])))
theorem wof (x : q21T) : exec G15.shallow ⟨0, 179, vaz⟩ (vad Try.f77 0) (va3 ⟨0, 179, vaz⟩ [1, 2, 3] []) (va0 (vay 179) [1, 2, 3] (v9i x)) (v70 x) = vkg x (Sum.elim (fun y => some ⟨.norm, v9i y, v70 y⟩) fun z => some ⟨(v23 z).1, (v23 z).2.1, (v23 z).2.2⟩) := by
  kernel_rfl
theorem wqm : ∀ sp, (vaz 0) = some sp → vbc G15.shallow ⟨0, 179, vaz⟩ sp (vad Try.f77 0) := by
  intro sp hsp vals st k r h
  cases hsp
  dsimp only at h
  rcases vae h with ⟨p, q, rfl, rfl, h⟩ | h
  · exact vaq wes v9i v70 v23 (fun z => by rcases z with z | z <;> (intro h; cases h)) wof Fuel (p.2.1, p.2.2.1, q.1.1, q.1.2.1, q.1.2.2.1, q.1.2.2.2.1, q.1.2.2.2.2.1) _ k r (fun z => by rcases z with z | z <;> rfl) h
  cases h
def wa3 : q20T → List AV := (fun x => [.bp 0 0, .bool x.1, .own 1, .int .i64 x.2.1])
def v8u : q20T → St := (fun x => [.box [.lst tVersion x.2.2.1, .lst tTxn x.2.2.2.1, .lst tTxn x.2.2.2.2.1, .int .i64 x.2.2.2.2.2.1, .int .i64 x.2.2.2.2.2.2.1], .arr (.int .i64) x.2.2.2.2.2.2.2])
def v2i : (q20T ⊕ q20T) → Out × List AV × St := (Sum.elim (fun z => (.ret, [.bp 0 0, .bool z.1, .own 1, .int .i64 z.2.1], [.box [.lst tVersion z.2.2.1, .lst tTxn z.2.2.2.1, .lst tTxn z.2.2.2.2.1, .int .i64 z.2.2.2.2.2.1, .int .i64 z.2.2.2.2.2.2.1], .arr (.int .i64) z.2.2.2.2.2.2.2])) (fun z => ((.exit 2), [.bp 0 0, .bool z.1, .own 1, .int .i64 z.2.1], [.box [.lst tVersion z.2.2.1, .lst tTxn z.2.2.2.1, .lst tTxn z.2.2.2.2.1, .int .i64 z.2.2.2.2.2.1, .int .i64 z.2.2.2.2.2.2.1], .arr (.int .i64) z.2.2.2.2.2.2.2])))
theorem wrt (x : q20T) : exec G15.shallow ⟨0, 179, vaz⟩ (vad Try.f77 2) (va3 ⟨0, 179, vaz⟩ [1, 2, 4, 5] []) (va0 (vay 179) [1, 2, 4, 5] (wa3 x)) (v8u x) = vki x (Sum.elim (fun y => some ⟨.norm, wa3 y, v8u y⟩) fun z => some ⟨(v2i z).1, (v2i z).2.1, (v2i z).2.2⟩) := by
  kernel_rfl
theorem woc : ∀ sp, (vaz 2) = some sp → vbc G15.shallow ⟨0, 179, vaz⟩ sp (vad Try.f77 2) := by
  intro sp hsp vals st k r h
  cases hsp
  dsimp only at h
  rcases vae h with ⟨p, q, rfl, rfl, h⟩ | h
  · exact vaq wck wa3 v8u v2i (fun z => by rcases z with z | z <;> (intro h; cases h)) wrt Fuel (p.2.1, p.2.2.2.1, q.1.1, q.1.2.1, q.1.2.2.1, q.1.2.2.2.1, q.1.2.2.2.2.1, q.2.1) _ k r (fun z => by rcases z with z | z <;> rfl) h
  cases h
def wax : q20T → List AV := (fun x => [.bp 0 0, .bool x.1, .own 1, .int .i64 x.2.1])
def wbo : q20T → St := (fun x => [.box [.lst tVersion x.2.2.1, .lst tTxn x.2.2.2.1, .lst tTxn x.2.2.2.2.1, .int .i64 x.2.2.2.2.2.1, .int .i64 x.2.2.2.2.2.2.1], .arr (.int .i64) x.2.2.2.2.2.2.2])
def v47 : (q20T ⊕ q20T) → Out × List AV × St := (Sum.elim (fun z => (.ret, [.bp 0 0, .bool z.1, .own 1, .int .i64 z.2.1], [.box [.lst tVersion z.2.2.1, .lst tTxn z.2.2.2.1, .lst tTxn z.2.2.2.2.1, .int .i64 z.2.2.2.2.2.1, .int .i64 z.2.2.2.2.2.2.1], .arr (.int .i64) z.2.2.2.2.2.2.2])) (fun z => ((.exit 4), [.bp 0 0, .bool z.1, .own 1, .int .i64 z.2.1], [.box [.lst tVersion z.2.2.1, .lst tTxn z.2.2.2.1, .lst tTxn z.2.2.2.2.1, .int .i64 z.2.2.2.2.2.1, .int .i64 z.2.2.2.2.2.2.1], .arr (.int .i64) z.2.2.2.2.2.2.2])))
theorem wq5 (x : q20T) : exec G15.shallow ⟨0, 179, vaz⟩ (vad Try.f77 4) (va3 ⟨0, 179, vaz⟩ [1, 2, 4, 7] []) (va0 (vay 179) [1, 2, 4, 7] (wax x)) (wbo x) = vk9 x (Sum.elim (fun y => some ⟨.norm, wax y, wbo y⟩) fun z => some ⟨(v47 z).1, (v47 z).2.1, (v47 z).2.2⟩) := by
  kernel_rfl
theorem wps : ∀ sp, (vaz 4) = some sp → vbc G15.shallow ⟨0, 179, vaz⟩ sp (vad Try.f77 4) := by
  intro sp hsp vals st k r h
  cases hsp
  dsimp only at h
  rcases vae h with ⟨p, q, rfl, rfl, h⟩ | h
  · exact vaq we6 wax wbo v47 (fun z => by rcases z with z | z <;> (intro h; cases h)) wq5 Fuel (p.2.1, p.2.2.2.1, q.1.1, q.1.2.1, q.1.2.2.1, q.1.2.2.2.1, q.1.2.2.2.2.1, q.2.1) _ k r (fun z => by rcases z with z | z <;> rfl) h
  cases h
def v74 : q22T → List AV := (fun x => [.bp 0 0, .bool x.1, .own 1, .int .i64 x.2.1, .int .i64 x.2.2.1])
def v80 : q22T → St := (fun x => [.box [.lst tVersion x.2.2.2.1, .lst tTxn x.2.2.2.2.1, .lst tTxn x.2.2.2.2.2.1, .int .i64 x.2.2.2.2.2.2.1, .int .i64 x.2.2.2.2.2.2.2.1], .arr (.int .i64) x.2.2.2.2.2.2.2.2])
def v3b : (q22T ⊕ q22T) → Out × List AV × St := (Sum.elim (fun z => (.ret, [.bp 0 0, .bool z.1, .own 1, .int .i64 z.2.1, .int .i64 z.2.2.1], [.box [.lst tVersion z.2.2.2.1, .lst tTxn z.2.2.2.2.1, .lst tTxn z.2.2.2.2.2.1, .int .i64 z.2.2.2.2.2.2.1, .int .i64 z.2.2.2.2.2.2.2.1], .arr (.int .i64) z.2.2.2.2.2.2.2.2])) (fun z => ((.exit 8), [.bp 0 0, .bool z.1, .own 1, .int .i64 z.2.1, .int .i64 z.2.2.1], [.box [.lst tVersion z.2.2.2.1, .lst tTxn z.2.2.2.2.1, .lst tTxn z.2.2.2.2.2.1, .int .i64 z.2.2.2.2.2.2.1, .int .i64 z.2.2.2.2.2.2.2.1], .arr (.int .i64) z.2.2.2.2.2.2.2.2])))
theorem wqn (x : q22T) : exec G15.shallow ⟨0, 179, vaz⟩ (vad Try.f77 8) (va3 ⟨0, 179, vaz⟩ [1, 2, 4, 9, 10] []) (va0 (vay 179) [1, 2, 4, 9, 10] (v74 x)) (v80 x) = vmi x (Sum.elim (fun y => some ⟨.norm, v74 y, v80 y⟩) fun z => some ⟨(v3b z).1, (v3b z).2.1, (v3b z).2.2⟩) := by
  kernel_rfl
theorem wq7 : ∀ sp, (vaz 8) = some sp → vbc G15.shallow ⟨0, 179, vaz⟩ sp (vad Try.f77 8) := by
  intro sp hsp vals st k r h
  cases hsp
  dsimp only at h
  rcases vae h with ⟨p, q, rfl, rfl, h⟩ | h
  · exact vaq wcc v74 v80 v3b (fun z => by rcases z with z | z <;> (intro h; cases h)) wqn Fuel (p.2.1, p.2.2.2.1, p.2.2.2.2.1, q.1.1, q.1.2.1, q.1.2.2.1, q.1.2.2.2.1, q.1.2.2.2.2.1, q.2.1) _ k r (fun z => by rcases z with z | z <;> rfl) h
  cases h
def v8l : q20T → List AV := (fun x => [.bp 0 0, .bool x.1, .own 1, .int .i64 x.2.1])
def v9f : q20T → St := (fun x => [.box [.lst tVersion x.2.2.1, .lst tTxn x.2.2.2.1, .lst tTxn x.2.2.2.2.1, .int .i64 x.2.2.2.2.2.1, .int .i64 x.2.2.2.2.2.2.1], .arr (.int .i64) x.2.2.2.2.2.2.2])
def v5f : (q20T ⊕ q20T) → Out × List AV × St := (Sum.elim (fun z => ((.exit 6), [.bp 0 0, .bool z.1, .own 1, .int .i64 z.2.1], [.box [.lst tVersion z.2.2.1, .lst tTxn z.2.2.2.1, .lst tTxn z.2.2.2.2.1, .int .i64 z.2.2.2.2.2.1, .int .i64 z.2.2.2.2.2.2.1], .arr (.int .i64) z.2.2.2.2.2.2.2])) (fun z => (.ret, [.bp 0 0, .bool z.1, .own 1, .int .i64 z.2.1], [.box [.lst tVersion z.2.2.1, .lst tTxn z.2.2.2.1, .lst tTxn z.2.2.2.2.1, .int .i64 z.2.2.2.2.2.1, .int .i64 z.2.2.2.2.2.2.1], .arr (.int .i64) z.2.2.2.2.2.2.2])))
theorem wpa (x : q20T) : exec G15.shallow ⟨0, 179, vaz⟩ (vad Try.f77 6) (va3 ⟨0, 179, vaz⟩ [1, 2, 4, 9] []) (va0 (vay 179) [1, 2, 4, 9] (v8l x)) (v9f x) = vlf x (Sum.elim (fun y => some ⟨.norm, v8l y, v9f y⟩) fun z => some ⟨(v5f z).1, (v5f z).2.1, (v5f z).2.2⟩) := by
  kernel_rfl
theorem wq6 : ∀ sp, (vaz 6) = some sp → vbc G15.shallow ⟨0, 179, vaz⟩ sp (vad Try.f77 6) := by
  intro sp hsp vals st k r h
  cases hsp
  dsimp only at h
  rcases vae h with ⟨p, q, rfl, rfl, h⟩ | h
  · exact vaq wd7 v8l v9f v5f (fun z => by rcases z with z | z <;> (intro h; cases h)) wpa Fuel (p.2.1, p.2.2.2.1, q.1.1, q.1.2.1, q.1.2.2.1, q.1.2.2.2.1, q.1.2.2.2.2.1, q.2.1) _ k r (fun z => by rcases z with z | z <;> rfl) h
  cases h
def vop : q17T → List AV := (fun x => [.bp 0 0, .bool x.1])
def voh : q17T → St := (fun x => [.box [.lst tVersion x.2.1, .lst tTxn x.2.2.1, .lst tTxn x.2.2.2.1, .int .i64 x.2.2.2.2.1, .int .i64 x.2.2.2.2.2]])
def vgr : q17T → Out × List AV × St := (fun z => (.ret, [.bp 0 0, .bool z.1], [.box [.lst tVersion z.2.1, .lst tTxn z.2.2.1, .lst tTxn z.2.2.2.1, .int .i64 z.2.2.2.2.1, .int .i64 z.2.2.2.2.2]]))
theorem vyu (x : q17T) : exec G15.shallow ⟨0, 179, vaz⟩ (vad Try.f77 5000003) (va3 ⟨0, 179, vaz⟩ [1, 2] []) (va0 (vay 179) [1, 2] (vop x)) (voh x) = vdo x (fun z => some ⟨(vgr z).1, (vgr z).2.1, (vgr z).2.2⟩) := by
  kernel_rfl
theorem vzm : ∀ sp, (vaz 5000003) = some sp → vep G15.shallow ⟨0, 179, vaz⟩ sp (vad Try.f77 5000003) := by
  intro sp hsp vals st k r h
  cases hsp
  dsimp only at h
  rcases vae h with ⟨p, q, rfl, rfl, h⟩ | h
  · exact va5 vor vop voh vgr vyu (p.2.1, q.1.1, q.1.2.1, q.1.2.2.1, q.1.2.2.2.1, q.1.2.2.2.2.1) _ k r (fun z => rfl) h
  cases h
theorem w14 (a0 : (List vac)) (a1 : (List dTxn)) (a2 : (List dTxn)) (a3 : Int) (a4 : Int) : var G15.shallow vaz Try.f77 [.agg [.lst tVersion a0, .lst tTxn a1, .lst tTxn a2, .int .i64 a3, .int .i64 a4]] [] = vxd (a0, (a1, (a2, (a3, a4)))) (fun (y : Bool) => some ⟨.ret, [.bool y], []⟩) := by rw [wh1]; kernel_rfl
theorem w20 : vao G15.shallow ⟨0, 179, vaz⟩ (Try.f77.body.getD .skip) :=
  vah (ids := [0, 2, 4, 8, 6, 5000003]) (by kernel_rfl) (by kernel_rfl) ⟨wqm, ⟨woc, ⟨wps, ⟨wq7, ⟨wq6, ⟨vzm, trivial⟩⟩⟩⟩⟩⟩
theorem w0i : val Try.prog 77 wmb := by
  refine told G15_ok.shallow follows Try.func77 (c := Try.f77.body.getD .skip) (by kernel_rfl) ?_
  intro args s k r hk
  unfold wmb at hk
  rcases vag hk with ⟨p, q, rfl, rfl⟩ | hk
  · exact ⟨vaz, (wt9 (p.1.1, (p.1.2.1, (p.1.2.2.1, (p.1.2.2.2.1, p.1.2.2.2.2.1))))).map _, w14 p.1.1 p.1.2.1 p.1.2.2.1 p.1.2.2.2.1 p.1.2.2.2.2.1, w20⟩
  cases hk
def G16 : Glob := G15.add 77 wmb
theorem G16_ok : GlobOk Try.prog G16 := G15_ok.add ⟨Try.f77, Try.func77, by kernel_rfl, by kernel_rfl⟩ w0i
def vb4 : Nat → Option LoopSpec
  | 5000017 => some ⟨[4, 5, 6, 7, 8], [none, none, none, none, none, some tVersion, some tTxn, some tTxn, none, none, none, none, none, some tVersion], fun vals st k => vaj [.bp 0 0, .dead, .dead, .bp 1 0, .bp 2 0] [.box [.own 3, .own 4, .own 5, .int .i64, .int .i64], .box [.str, .int .i64, .bool], .box [.own 6, .own 7, .own 8, .int .i64, .int .i64], .arr tVersion, .dep tTxn 0, .dep tTxn 0, .arr tVersion, .arr tTxn, .arr tTxn] vals st (fun p q => vff (q.1.2.2.2.1, q.1.2.2.2.2.1, q.2.1.1, q.2.1.2.1, q.2.1.2.2.1, q.2.2.1.2.2.2.1, q.2.2.1.2.2.2.2.1, q.2.2.2.1, q.2.2.2.2.1, q.2.2.2.2.2.1, q.2.2.2.2.2.2.1, q.2.2.2.2.2.2.2.1, q.2.2.2.2.2.2.2.2.1) (fun z => k .ret [.bp 0 0, .int .i64 z.1, .bool z.2.1, .bp 1 0, .bp 2 0] [.box [.own 3, .own 4, .own 5, .int .i64 z.2.2.1, .int .i64 z.2.2.2.1], .box [.str z.2.2.2.2.1, .int .i64 z.2.2.2.2.2.1, .bool z.2.2.2.2.2.2.1], .box [.own 3, .own 4, .own 5, .int .i64 z.2.2.2.2.2.2.2.1, .int .i64 z.2.2.2.2.2.2.2.2.1], .arr tVersion z.2.2.2.2.2.2.2.2.2.1, .arr tTxn z.2.2.2.2.2.2.2.2.2.2.1, .arr tTxn z.2.2.2.2.2.2.2.2.2.2.2]))
      (none)⟩
  | 6000001 => some ⟨[4, 7, 8, 9, 10], [none, none, none, none, none, none, none, none, none, none, none, none, none, some tVersion], fun vals st k => vaj [.bp 0 0, .bp 1 0, .bp 2 0, .int .i64, .int .i64] [.box [.nilS, .nilS, .nilS, .int .i64, .int .i64], .box [.str, .int .i64, .bool], .box [.own 3, .nilS, .nilS, .int .i64, .int .i64], .arr tVersion] vals st (fun p q => veq (p.2.2.2.1, p.2.2.2.2.1, q.1.2.2.2.1, q.1.2.2.2.2.1, q.2.1.1, q.2.1.2.1, q.2.1.2.2.1, q.2.2.1.2.2.2.1, q.2.2.1.2.2.2.2.1, q.2.2.2.1) (fun z => k .norm [.bp 0 0, .bp 1 0, .bp 2 0, .int .i64 z.1, .int .i64 z.2.1] [.box [.nilS, .nilS, .nilS, .int .i64 z.2.2.1, .int .i64 z.2.2.2.1], .box [.str z.2.2.2.2.1, .int .i64 z.2.2.2.2.2.1, .bool z.2.2.2.2.2.2.1], .box [.own 3, .nilS, .nilS, .int .i64 z.2.2.2.2.2.2.2.1, .int .i64 z.2.2.2.2.2.2.2.2.1], .arr tVersion z.2.2.2.2.2.2.2.2.2]))
      (none)⟩
  | 0 => some ⟨[4, 7, 8, 9, 10], [none, none, none, none, none, none, none, none, none, none, none, none, none, some tVersion], fun vals st k => vaj [.bp 0 0, .bp 1 0, .bp 2 0, .int .i64, .int .i64] [.box [.nilS, .nilS, .nilS, .int .i64, .int .i64], .box [.str, .int .i64, .bool], .box [.own 3, .nilS, .nilS, .int .i64, .int .i64], .arr tVersion] vals st (fun p q => vai vke Fuel (p.2.2.2.1, p.2.2.2.2.1, q.1.2.2.2.1, q.1.2.2.2.2.1, q.2.1.1, q.2.1.2.1, q.2.1.2.2.1, q.2.2.1.2.2.2.1, q.2.2.1.2.2.2.2.1, q.2.2.2.1) (fun z => k (.exit 0) [.bp 0 0, .bp 1 0, .bp 2 0, .int .i64 z.1, .int .i64 z.2.1] [.box [.nilS, .nilS, .nilS, .int .i64 z.2.2.1, .int .i64 z.2.2.2.1], .box [.str z.2.2.2.2.1, .int .i64 z.2.2.2.2.2.1, .bool z.2.2.2.2.2.2.1], .box [.own 3, .nilS, .nilS, .int .i64 z.2.2.2.2.2.2.2.1, .int .i64 z.2.2.2.2.2.2.2.2.1], .arr tVersion z.2.2.2.2.2.2.2.2.2]))
      (none)⟩
  | 1000017 => some ⟨[0], [], fun _ _ _ => none⟩
  | 3000000 => some ⟨[], [some tVersion, some tTxn, some tTxn], fun _ _ _ => none⟩
  | _ => none
def vom : q44T → List AV := (fun x => [.bp 0 0, .dead, .dead, .bp 1 0, .bp 2 0])
def voy : q44T → St := (fun x => [.box [.own 3, .own 4, .own 5, .int .i64 x.1, .int .i64 x.2.1], .box [.str x.2.2.1, .int .i64 x.2.2.2.1, .bool x.2.2.2.2.1], .box [.own 6, .own 7, .own 8, .int .i64 x.2.2.2.2.2.1, .int .i64 x.2.2.2.2.2.2.1], .arr tVersion x.2.2.2.2.2.2.2.1, .dep tTxn x.2.2.2.2.2.2.2.2.1 0, .dep tTxn x.2.2.2.2.2.2.2.2.2.1 0, .arr tVersion x.2.2.2.2.2.2.2.2.2.2.1, .arr tTxn x.2.2.2.2.2.2.2.2.2.2.2.1, .arr tTxn x.2.2.2.2.2.2.2.2.2.2.2.2])
def vhf : q38T → Out × List AV × St := (fun z => (.ret, [.bp 0 0, .int .i64 z.1, .bool z.2.1, .bp 1 0, .bp 2 0], [.box [.own 3, .own 4, .own 5, .int .i64 z.2.2.1, .int .i64 z.2.2.2.1], .box [.str z.2.2.2.2.1, .int .i64 z.2.2.2.2.2.1, .bool z.2.2.2.2.2.2.1], .box [.own 3, .own 4, .own 5, .int .i64 z.2.2.2.2.2.2.2.1, .int .i64 z.2.2.2.2.2.2.2.2.1], .arr tVersion z.2.2.2.2.2.2.2.2.2.1, .arr tTxn z.2.2.2.2.2.2.2.2.2.2.1, .arr tTxn z.2.2.2.2.2.2.2.2.2.2.2]))
theorem vzd (x : q44T) : exec G16.shallow ⟨0, 79, vb4⟩ (vad Try.f68 5000017) (va3 ⟨0, 79, vb4⟩ [4, 5, 6, 7, 8] [none, none, none, none, none, some tVersion, some tTxn, some tTxn, none, none, none, none, none, some tVersion]) (va0 (vay 79) [4, 5, 6, 7, 8] (vom x)) (voy x) = vff x (fun z => some ⟨(vhf z).1, (vhf z).2.1, (vhf z).2.2⟩) := by
  kernel_rfl
theorem v0h : ∀ sp, (vb4 5000017) = some sp → vep G16.shallow ⟨0, 79, vb4⟩ sp (vad Try.f68 5000017) := by
  intro sp hsp vals st k r h
  cases hsp
  dsimp only at h
  rcases vae h with ⟨p, q, rfl, rfl, h⟩ | h
  · exact va5 vol vom voy vhf vzd (q.1.2.2.2.1, q.1.2.2.2.2.1, q.2.1.1, q.2.1.2.1, q.2.1.2.2.1, q.2.2.1.2.2.2.1, q.2.2.1.2.2.2.2.1, q.2.2.2.1, q.2.2.2.2.1, q.2.2.2.2.2.1, q.2.2.2.2.2.2.1, q.2.2.2.2.2.2.2.1, q.2.2.2.2.2.2.2.2.1) _ k r (fun z => rfl) h
  cases h
def vqd : q57T → List AV := (fun x => [.bp 0 0, .bp 1 0, .bp 2 0, .int .i64 x.1, .int .i64 x.2.1])
def vpc : q57T → St := (fun x => [.box [.nilS, .nilS, .nilS, .int .i64 x.2.2.1, .int .i64 x.2.2.2.1], .box [.str x.2.2.2.2.1, .int .i64 x.2.2.2.2.2.1, .bool x.2.2.2.2.2.2.1], .box [.own 3, .nilS, .nilS, .int .i64 x.2.2.2.2.2.2.2.1, .int .i64 x.2.2.2.2.2.2.2.2.1], .arr tVersion x.2.2.2.2.2.2.2.2.2])
def vgo : q57T → Out × List AV × St := (fun z => (.norm, [.bp 0 0, .bp 1 0, .bp 2 0, .int .i64 z.1, .int .i64 z.2.1], [.box [.nilS, .nilS, .nilS, .int .i64 z.2.2.1, .int .i64 z.2.2.2.1], .box [.str z.2.2.2.2.1, .int .i64 z.2.2.2.2.2.1, .bool z.2.2.2.2.2.2.1], .box [.own 3, .nilS, .nilS, .int .i64 z.2.2.2.2.2.2.2.1, .int .i64 z.2.2.2.2.2.2.2.2.1], .arr tVersion z.2.2.2.2.2.2.2.2.2]))
theorem vzv (x : q57T) : exec G16.shallow ⟨0, 79, vb4⟩ (vad Try.f68 6000001) (va3 ⟨0, 79, vb4⟩ [4, 7, 8, 9, 10] [none, none, none, none, none, none, none, none, none, none, none, none, none, some tVersion]) (va0 (vay 79) [4, 7, 8, 9, 10] (vqd x)) (vpc x) = veq x (fun z => some ⟨(vgo z).1, (vgo z).2.1, (vgo z).2.2⟩) := by
  kernel_rfl
theorem vzi : ∀ sp, (vb4 6000001) = some sp → vep G16.shallow ⟨0, 79, vb4⟩ sp (vad Try.f68 6000001) := by
  intro sp hsp vals st k r h
  cases hsp
  dsimp only at h
  rcases vae h with ⟨p, q, rfl, rfl, h⟩ | h
  · exact va5 vpm vqd vpc vgo vzv (p.2.2.2.1, p.2.2.2.2.1, q.1.2.2.2.1, q.1.2.2.2.2.1, q.2.1.1, q.2.1.2.1, q.2.1.2.2.1, q.2.2.1.2.2.2.1, q.2.2.1.2.2.2.2.1, q.2.2.2.1) _ k r (fun z => rfl) h
  cases h
def v9d : q57T → List AV := (fun x => [.bp 0 0, .bp 1 0, .bp 2 0, .int .i64 x.1, .int .i64 x.2.1])
def wai : q57T → St := (fun x => [.box [.nilS, .nilS, .nilS, .int .i64 x.2.2.1, .int .i64 x.2.2.2.1], .box [.str x.2.2.2.2.1, .int .i64 x.2.2.2.2.2.1, .bool x.2.2.2.2.2.2.1], .box [.own 3, .nilS, .nilS, .int .i64 x.2.2.2.2.2.2.2.1, .int .i64 x.2.2.2.2.2.2.2.2.1], .arr tVersion x.2.2.2.2.2.2.2.2.2])
def v4h : q57T → Out × List AV × St := (fun z => ((.exit 0), [.bp 0 0, .bp 1 0, .bp 2 0, .int .i64 z.1, .int .i64 z.2.1], [.box [.nilS, .nilS, .nilS, .int .i64 z.2.2.1, .int .i64 z.2.2.2.1], .box [.str z.2.2.2.2.1, .int .i64 z.2.2.2.2.2.1, .bool z.2.2.2.2.2.2.1], .box [.own 3, .nilS, .nilS, .int .i64 z.2.2.2.2.2.2.2.1, .int .i64 z.2.2.2.2.2.2.2.2.1], .arr tVersion z.2.2.2.2.2.2.2.2.2]))
theorem wn6 (x : q57T) : exec G16.shallow ⟨0, 79, vb4⟩ (vad Try.f68 0) (va3 ⟨0, 79, vb4⟩ [4, 7, 8, 9, 10] [none, none, none, none, none, none, none, none, none, none, none, none, none, some tVersion]) (va0 (vay 79) [4, 7, 8, 9, 10] (v9d x)) (wai x) = vke x (Sum.elim (fun y => some ⟨.norm, v9d y, wai y⟩) fun z => some ⟨(v4h z).1, (v4h z).2.1, (v4h z).2.2⟩) := by
  kernel_rfl
theorem wo9 : ∀ sp, (vb4 0) = some sp → vbc G16.shallow ⟨0, 79, vb4⟩ sp (vad Try.f68 0) := by
  intro sp hsp vals st k r h
  cases hsp
  dsimp only at h
  rcases vae h with ⟨p, q, rfl, rfl, h⟩ | h
  · exact vaq wcl v9d wai v4h (fun z => by (intro h; cases h)) wn6 Fuel (p.2.2.2.1, p.2.2.2.2.1, q.1.2.2.2.1, q.1.2.2.2.2.1, q.2.1.1, q.2.1.2.1, q.2.1.2.2.1, q.2.2.1.2.2.2.1, q.2.2.1.2.2.2.2.1, q.2.2.2.1) _ k r (fun z => rfl) h
  cases h
theorem w0v (a0 : ByteArray) (a1 : Int) : var G16.shallow vb4 Try.f68 [.str a0, .int .i64 a1] [] = vx9 a0 a1 (Sum.elim (fun (y : q50T) => some ⟨.ret, [.tup [.agg [.own 0, .own 1, .own 2, .int .i64 y.1, .int .i64 y.2.1], .int .i64 y.2.2.1, .bool y.2.2.2.1]], [.arr tVersion y.2.2.2.2.1, .dep tTxn y.2.2.2.2.2.1 0, .dep tTxn y.2.2.2.2.2.2 0]⟩) (fun (y : q50T) => some ⟨.ret, [.tup [.agg [.own 0, .own 1, .own 2, .int .i64 y.1, .int .i64 y.2.1], .int .i64 y.2.2.1, .bool y.2.2.2.1]], [.arr tVersion y.2.2.2.2.1, .arr tTxn y.2.2.2.2.2.1, .arr tTxn y.2.2.2.2.2.2]⟩)) := by rw [wne]; kernel_rfl
theorem wx2 : vao G16.shallow ⟨0, 79, vb4⟩ (Try.f68.body.getD .skip) :=
  vah (ids := [5000017, 6000001, 0]) (by kernel_rfl) (by kernel_rfl) ⟨v0h, ⟨vzi, ⟨wo9, trivial⟩⟩⟩
theorem wyo : val Try.prog 68 wjq := by
  refine told G16_ok.shallow follows Try.func68 (c := Try.f68.body.getD .skip) (by kernel_rfl) ?_
  intro args s k r hk
  unfold wjq at hk
  rcases vag hk with ⟨p, q, rfl, rfl⟩ | hk
  · exact ⟨vb4, (wtj p.1 p.2.1).map2 _ _, w0v p.1 p.2.1, wx2⟩
  cases hk
def G17 : Glob := G16.add 68 wjq
theorem G17_ok : GlobOk Try.prog G17 := G16_ok.add ⟨Try.f68, Try.func68, by kernel_rfl, by kernel_rfl⟩ wyo
def vum : Nat → Option LoopSpec
  | _ => none
theorem wyq (a0 : Int) (a1 : Int) (a2 : Int) : var G17 vum Try.f145 [.int .i64 a0, .int .i64 a1, .int .i64 a2] [] = vdb a0 a1 a2 (fun (y : Bool) => some ⟨.ret, [.bool y], []⟩) := by rw [wnr]; kernel_rfl
theorem wy0 : vao G17 ⟨0, 15, vum⟩ (Try.f145.body.getD .skip) :=
  vah (ids := []) (by kernel_rfl) (by kernel_rfl) trivial
theorem wzx : val Try.prog 145 wkb := by
  refine told G17_ok follows Try.func145 (c := Try.f145.body.getD .skip) (by kernel_rfl) ?_
  intro args s k r hk
  unfold wkb at hk
  rcases vag hk with ⟨p, q, rfl, rfl⟩ | hk
  · exact ⟨vum, (vj8 p.1 p.2.1 p.2.2.1).map _, wyq p.1 p.2.1 p.2.2.1, wy0⟩
  cases hk
def G18 : Glob := G17.add 145 wkb
theorem G18_ok : GlobOk Try.prog G18 := G17_ok.add ⟨Try.f145, Try.func145, by kernel_rfl, by kernel_rfl⟩ wzx
def vgf : Nat → Option LoopSpec
  | 0 => some ⟨[0, 4], [none, some (.int .u8)], fun vals st k => vaj [.int .i64, .own 0] [.arr (.int .u8)] vals st (fun p q => vai vli Fuel (p.1, q.1) (fun z => k (.exit 0) [.int .i64 z.1, .own 0] [.arr (.int .u8) z.2]))
      (none)⟩
  | _ => none
def v73 : (Int × (List Int)) → List AV := (fun x => [.int .i64 x.1, .own 0])
def v8j : (Int × (List Int)) → St := (fun x => [.arr (.int .u8) x.2])
def v5k : (Int × (List Int)) → Out × List AV × St := (fun z => ((.exit 0), [.int .i64 z.1, .own 0], [.arr (.int .u8) z.2]))
theorem wo2 (x : (Int × (List Int))) : exec G18 ⟨0, 25, vgf⟩ (vad Try.f202 0) (va3 ⟨0, 25, vgf⟩ [0, 4] [none, some (.int .u8)]) (va0 (vay 25) [0, 4] (v73 x)) (v8j x) = vli x (Sum.elim (fun y => some ⟨.norm, v73 y, v8j y⟩) fun z => some ⟨(v5k z).1, (v5k z).2.1, (v5k z).2.2⟩) := by
  kernel_rfl
theorem wsc : ∀ sp, (vgf 0) = some sp → vbc G18 ⟨0, 25, vgf⟩ sp (vad Try.f202 0) := by
  intro sp hsp vals st k r h
  cases hsp
  dsimp only at h
  rcases vae h with ⟨p, q, rfl, rfl, h⟩ | h
  · exact vaq wf3 v73 v8j v5k (fun z => by (intro h; cases h)) wo2 Fuel (p.1, q.1) _ k r (fun z => rfl) h
  cases h
theorem w1d (a0 : Int) : var G18 vgf Try.f202 [.int .i64 a0] [] = v19 a0 (fun (y : (ByteArray × Bool)) => some ⟨.ret, [.tup [.str y.1, .bool y.2]], []⟩) := by rw [wmr]; kernel_rfl
theorem w3m : vao G18 ⟨0, 25, vgf⟩ (Try.f202.body.getD .skip) :=
  vah (ids := [0]) (by kernel_rfl) (by kernel_rfl) ⟨wsc, trivial⟩
theorem wwb : val Try.prog 202 wl5 := by
  refine told G18_ok follows Try.func202 (c := Try.f202.body.getD .skip) (by kernel_rfl) ?_
  intro args s k r hk
  unfold wl5 at hk
  rcases vag hk with ⟨p, q, rfl, rfl⟩ | hk
  · exact ⟨vgf, (ws0 p.1).map _, w1d p.1, w3m⟩
  cases hk
def G19 : Glob := G18.add 202 wl5
theorem G19_ok : GlobOk Try.prog G19 := G18_ok.add ⟨Try.f202, Try.func202, by kernel_rfl, by kernel_rfl⟩ wwb
def vc3 : Nat → Option LoopSpec
  | 6000001 => some ⟨[0, 1, 4, 5, 6, 7, 8], [], fun vals st k => vaj [.str, .int .i64, .int .i64, .int .i64, .bool, .int .i64, .int .i64] [] vals st (fun p q => vee (p.1, p.2.1, p.2.2.1, p.2.2.2.1, p.2.2.2.2.1, p.2.2.2.2.2.1, p.2.2.2.2.2.2.1) (Sum.elim (fun z => k .ret [.str z.1, .int .i64 z.2.1, .int .i64 z.2.2.1, .int .i64 z.2.2.2.1, .bool z.2.2.2.2.1, .int .i64 z.2.2.2.2.2.1, .int .i64 z.2.2.2.2.2.2] []) (fun z => k .norm [.str z.1, .int .i64 z.2.1, .int .i64 z.2.2.1, .int .i64 z.2.2.2.1, .bool z.2.2.2.2.1, .int .i64 z.2.2.2.2.2.1, .int .i64 z.2.2.2.2.2.2] [])))
      (none)⟩
  | 0 => some ⟨[0, 1, 4, 5, 6, 7, 8], [], fun vals st k => vaj [.str, .int .i64, .int .i64, .int .i64, .bool, .int .i64, .int .i64] [] vals st (fun p q => vai vk3 Fuel (p.1, p.2.1, p.2.2.1, p.2.2.2.1, p.2.2.2.2.1, p.2.2.2.2.2.1, p.2.2.2.2.2.2.1) (Sum.elim (fun z => k (.exit 0) [.str z.1, .int .i64 z.2.1, .int .i64 z.2.2.1, .int .i64 z.2.2.2.1, .bool z.2.2.2.2.1, .int .i64 z.2.2.2.2.2.1, .int .i64 z.2.2.2.2.2.2] []) (fun z => k .ret [.str z.1, .int .i64 z.2.1, .int .i64 z.2.2.1, .int .i64 z.2.2.2.1, .bool z.2.2.2.2.1, .int .i64 z.2.2.2.2.2.1, .int .i64 z.2.2.2.2.2.2] [])))
      (none)⟩
  | _ => none
def vqw : q36T → List AV := (fun x => [.str x.1, .int .i64 x.2.1, .int .i64 x.2.2.1, .int .i64 x.2.2.2.1, .bool x.2.2.2.2.1, .int .i64 x.2.2.2.2.2.1, .int .i64 x.2.2.2.2.2.2])
def vqr : q36T → St := (fun x => [])
def vg1 : (q36T ⊕ q36T) → Out × List AV × St := (Sum.elim (fun z => (.ret, [.str z.1, .int .i64 z.2.1, .int .i64 z.2.2.1, .int .i64 z.2.2.2.1, .bool z.2.2.2.2.1, .int .i64 z.2.2.2.2.2.1, .int .i64 z.2.2.2.2.2.2], [])) (fun z => (.norm, [.str z.1, .int .i64 z.2.1, .int .i64 z.2.2.1, .int .i64 z.2.2.2.1, .bool z.2.2.2.2.1, .int .i64 z.2.2.2.2.2.1, .int .i64 z.2.2.2.2.2.2], [])))
theorem vyj (x : q36T) : exec G19 ⟨0, 63, vc3⟩ (vad Try.f258 6000001) (va3 ⟨0, 63, vc3⟩ [0, 1, 4, 5, 6, 7, 8] []) (va0 (vay 63) [0, 1, 4, 5, 6, 7, 8] (vqw x)) (vqr x) = vee x (fun z => some ⟨(vg1 z).1, (vg1 z).2.1, (vg1 z).2.2⟩) := by
  kernel_rfl
theorem vzy : ∀ sp, (vc3 6000001) = some sp → vep G19 ⟨0, 63, vc3⟩ sp (vad Try.f258 6000001) := by
  intro sp hsp vals st k r h
  cases hsp
  dsimp only at h
  rcases vae h with ⟨p, q, rfl, rfl, h⟩ | h
  · exact va5 vqc vqw vqr vg1 vyj (p.1, p.2.1, p.2.2.1, p.2.2.2.1, p.2.2.2.2.1, p.2.2.2.2.2.1, p.2.2.2.2.2.2.1) _ k r (fun z => by rcases z with z | z <;> rfl) h
  cases h
def wad : q36T → List AV := (fun x => [.str x.1, .int .i64 x.2.1, .int .i64 x.2.2.1, .int .i64 x.2.2.2.1, .bool x.2.2.2.2.1, .int .i64 x.2.2.2.2.2.1, .int .i64 x.2.2.2.2.2.2])
def v90 : q36T → St := (fun x => [])
def v20 : (q36T ⊕ q36T) → Out × List AV × St := (Sum.elim (fun z => ((.exit 0), [.str z.1, .int .i64 z.2.1, .int .i64 z.2.2.1, .int .i64 z.2.2.2.1, .bool z.2.2.2.2.1, .int .i64 z.2.2.2.2.2.1, .int .i64 z.2.2.2.2.2.2], [])) (fun z => (.ret, [.str z.1, .int .i64 z.2.1, .int .i64 z.2.2.1, .int .i64 z.2.2.2.1, .bool z.2.2.2.2.1, .int .i64 z.2.2.2.2.2.1, .int .i64 z.2.2.2.2.2.2], [])))
theorem wsf (x : q36T) : exec G19 ⟨0, 63, vc3⟩ (vad Try.f258 0) (va3 ⟨0, 63, vc3⟩ [0, 1, 4, 5, 6, 7, 8] []) (va0 (vay 63) [0, 1, 4, 5, 6, 7, 8] (wad x)) (v90 x) = vk3 x (Sum.elim (fun y => some ⟨.norm, wad y, v90 y⟩) fun z => some ⟨(v20 z).1, (v20 z).2.1, (v20 z).2.2⟩) := by
  kernel_rfl
theorem wre : ∀ sp, (vc3 0) = some sp → vbc G19 ⟨0, 63, vc3⟩ sp (vad Try.f258 0) := by
  intro sp hsp vals st k r h
  cases hsp
  dsimp only at h
  rcases vae h with ⟨p, q, rfl, rfl, h⟩ | h
  · exact vaq we2 wad v90 v20 (fun z => by rcases z with z | z <;> (intro h; cases h)) wsf Fuel (p.1, p.2.1, p.2.2.1, p.2.2.2.1, p.2.2.2.2.1, p.2.2.2.2.2.1, p.2.2.2.2.2.2.1) _ k r (fun z => by rcases z with z | z <;> rfl) h
  cases h
theorem wwf (a0 : ByteArray) (a1 : Int) : var G19 vc3 Try.f258 [.str a0, .int .i64 a1] [] = vv8 a0 a1 (fun (y : (Int × Int × Bool)) => some ⟨.ret, [.tup [.int .i64 y.1, .int .i64 y.2.1, .bool y.2.2]], []⟩) := by rw [wip]; kernel_rfl
theorem www : vao G19 ⟨0, 63, vc3⟩ (Try.f258.body.getD .skip) :=
  vah (ids := [6000001, 0]) (by kernel_rfl) (by kernel_rfl) ⟨vzy, ⟨wre, trivial⟩⟩
theorem wzp : val Try.prog 258 whr := by
  refine told G19_ok follows Try.func258 (c := Try.f258.body.getD .skip) (by kernel_rfl) ?_
  intro args s k r hk
  unfold whr at hk
  rcases vag hk with ⟨p, q, rfl, rfl⟩ | hk
  · exact ⟨vc3, (wg8 p.1 p.2.1).map _, wwf p.1 p.2.1, www⟩
  cases hk
def G20 : Glob := G19.add 258 whr
theorem G20_ok : GlobOk Try.prog G20 := G19_ok.add ⟨Try.f258, Try.func258, by kernel_rfl, by kernel_rfl⟩ wzp
def vt9 : Nat → Option LoopSpec
  | 2000001 => some ⟨[0, 2, 4, 6, 8, 10, 12, 14, 16, 18, 20, 22, 24, 26, 28, 30], [], fun _ _ _ => none⟩
  | _ => none
theorem w2u (a0 : ByteArray) (a1 : Int) (a2 : Bool) : var G20 vt9 Try.f219 [.bp 0 0] [.box [.str a0, .int .i64 a1, .bool a2]] = vfs a0 a1 a2 (fun (y : (Int × ByteArray × Int × Bool)) => some ⟨.ret, [.int .i64 y.1], [.box [.str y.2.1, .int .i64 y.2.2.1, .bool y.2.2.2]]⟩) := by rw [wnb]; kernel_rfl
theorem wye : vao G20 ⟨1, 35, vt9⟩ (Try.f219.body.getD .skip) :=
  vah (ids := []) (by kernel_rfl) (by kernel_rfl) trivial
theorem w3d : val Try.prog 219 wij := by
  refine told G20_ok follows Try.func219 (c := Try.f219.body.getD .skip) (by kernel_rfl) ?_
  intro args s k r hk
  unfold wij at hk
  rcases vag hk with ⟨p, q, rfl, rfl⟩ | hk
  · exact ⟨vt9, (vje q.1.1 q.1.2.1 q.1.2.2.1).map _, w2u q.1.1 q.1.2.1 q.1.2.2.1, wye⟩
  cases hk
def G21 : Glob := G20.add 219 wij
theorem G21_ok : GlobOk Try.prog G21 := G20_ok.add ⟨Try.f219, Try.func219, by kernel_rfl, by kernel_rfl⟩ w3d
def vug : Nat → Option LoopSpec
  | _ => none
theorem w2d (a0 : ByteArray) (a1 : Int) : var G21 vug Try.f259 [.str a0, .int .i64 a1] [] = v01 a0 a1 (fun (y : (ByteArray × Int × Bool)) => some ⟨.ret, [.tup [.str y.1, .int .i64 y.2.1, .bool y.2.2]], []⟩) := by rw [wiw]; kernel_rfl
theorem w04 : vao G21 ⟨0, 40, vug⟩ (Try.f259.body.getD .skip) :=
  vah (ids := []) (by kernel_rfl) (by kernel_rfl) trivial
theorem wx0 : val Try.prog 259 wh2 := by
  refine told G21_ok follows Try.func259 (c := Try.f259.body.getD .skip) (by kernel_rfl) ?_
  intro args s k r hk
  unfold wh2 at hk
  rcases vag hk with ⟨p, q, rfl, rfl⟩ | hk
  · exact ⟨vug, (wua p.1 p.2.1).map _, w2d p.1 p.2.1, w04⟩
  cases hk
def G22 : Glob := G21.add 259 wh2
theorem G22_ok : GlobOk Try.prog G22 := G21_ok.add ⟨Try.f259, Try.func259, by kernel_rfl, by kernel_rfl⟩ wx0
def vuj : Nat → Option LoopSpec
  | 2000001 => some ⟨[0, 2, 4, 6, 8, 10, 12, 14, 16, 18, 20, 22, 24, 26, 28, 30], [], fun _ _ _ => none⟩
  | _ => none
theorem w2j (a0 : ByteArray) (a1 : Int) (a2 : Bool) : var G22 vuj Try.f222 [.bp 0 0] [.box [.str a0, .int .i64 a1, .bool a2]] = vfq a0 a1 a2 (fun (y : q27T) => some ⟨.ret, [.str y.1], [.box [.str y.2.1, .int .i64 y.2.2.1, .bool y.2.2.2]]⟩) := by rw [wlf]; kernel_rfl
theorem wwu : vao G22 ⟨1, 35, vuj⟩ (Try.f222.body.getD .skip) :=
  vah (ids := []) (by kernel_rfl) (by kernel_rfl) trivial
theorem wzu : val Try.prog 222 wl3 := by
  refine told G22_ok follows Try.func222 (c := Try.f222.body.getD .skip) (by kernel_rfl) ?_
  intro args s k r hk
  unfold wl3 at hk
  rcases vag hk with ⟨p, q, rfl, rfl⟩ | hk
  · exact ⟨vuj, (vja q.1.1 q.1.2.1 q.1.2.2.1).map _, w2j q.1.1 q.1.2.1 q.1.2.2.1, wwu⟩
  cases hk
def G23 : Glob := G22.add 222 wl3
theorem G23_ok : GlobOk Try.prog G23 := G22_ok.add ⟨Try.f222, Try.func222, by kernel_rfl, by kernel_rfl⟩ wzu
def vfw : Nat → Option LoopSpec
  | 5000004 => some ⟨[0, 2], [], fun vals st k => vaj [.bp 0 0, .bool] [.box [.str, .int .i64, .bool]] vals st (fun p q => vei (p.2.1, q.1.1, q.1.2.1, q.1.2.2.1) (fun z => k .ret [.bp 0 0, .bool z.1] [.box [.str z.2.1, .int .i64 z.2.2.1, .bool z.2.2.2]]))
      (none)⟩
  | 2000001 => some ⟨[0, 2, 4, 6, 8, 10, 12, 14, 16, 18, 20, 22, 24, 26, 28, 31, 32, 34, 36, 38, 40, 42, 44, 46, 48, 50, 52, 54, 56, 58], [], fun _ _ _ => none⟩
  | 2000005 => some ⟨[0, 2, 4, 6, 8, 10, 12, 14, 16, 18, 20, 22], [], fun _ _ _ => none⟩
  | _ => none
def vp7 : q19T → List AV := (fun x => [.bp 0 0, .bool x.1])
def vow : q19T → St := (fun x => [.box [.str x.2.1, .int .i64 x.2.2.1, .bool x.2.2.2]])
def vgw : q19T → Out × List AV × St := (fun z => (.ret, [.bp 0 0, .bool z.1], [.box [.str z.2.1, .int .i64 z.2.2.1, .bool z.2.2.2]]))
theorem v0j (x : q19T) : exec G23 ⟨1, 54, vfw⟩ (vad Try.f223 5000004) (va3 ⟨1, 54, vfw⟩ [0, 2] []) (va0 (vay 54) [0, 2] (vp7 x)) (vow x) = vei x (fun z => some ⟨(vgw z).1, (vgw z).2.1, (vgw z).2.2⟩) := by
  kernel_rfl
theorem vzw : ∀ sp, (vfw 5000004) = some sp → vep G23 ⟨1, 54, vfw⟩ sp (vad Try.f223 5000004) := by
  intro sp hsp vals st k r h
  cases hsp
  dsimp only at h
  rcases vae h with ⟨p, q, rfl, rfl, h⟩ | h
  · exact va5 vql vp7 vow vgw v0j (p.2.1, q.1.1, q.1.2.1, q.1.2.2.1) _ k r (fun z => rfl) h
  cases h
theorem w0k (a0 : ByteArray) (a1 : Int) (a2 : Bool) : var G23 vfw Try.f223 [.bp 0 0] [.box [.str a0, .int .i64 a1, .bool a2]] = vod a0 a1 a2 (fun (y : q19T) => some ⟨.ret, [.bool y.1], [.box [.str y.2.1, .int .i64 y.2.2.1, .bool y.2.2.2]]⟩) := by rw [wmv]; kernel_rfl
theorem w2f : vao G23 ⟨1, 54, vfw⟩ (Try.f223.body.getD .skip) :=
  vah (ids := [5000004]) (by kernel_rfl) (by kernel_rfl) ⟨vzw, trivial⟩
theorem w0s : val Try.prog 223 wlb := by
  refine told G23_ok follows Try.func223 (c := Try.f223.body.getD .skip) (by kernel_rfl) ?_
  intro args s k r hk
  unfold wlb at hk
  rcases vag hk with ⟨p, q, rfl, rfl⟩ | hk
  · exact ⟨vfw, (v02 q.1.1 q.1.2.1 q.1.2.2.1).map _, w0k q.1.1 q.1.2.1 q.1.2.2.1, w2f⟩
  cases hk
def G24 : Glob := G23.add 223 wlb
theorem G24_ok : GlobOk Try.prog G24 := G23_ok.add ⟨Try.f223, Try.func223, by kernel_rfl, by kernel_rfl⟩ w0s
def vto : Nat → Option LoopSpec
  | 1000000 => some ⟨[2], [], fun _ _ _ => none⟩
  | _ => none
theorem wyc (a0 : Int) (a1 : Int) (a2 : ByteArray) (a3 : Int) (a4 : Bool) : var G24 vto Try.f221 [.bp 0 0, .bp 1 0] [.box [.bp 2 0], .box [.nilS, .nilS, .nilS, .int .i64 a0, .int .i64 a1], .box [.str a2, .int .i64 a3, .bool a4]] = wd0 a0 a1 a2 a3 a4 (fun (y : q43T) => some ⟨.ret, [.tup []], [.box [.bp 2 0], .box [.own 3, .nilS, .nilS, .int .i64 y.1, .int .i64 y.2.1], .box [.str y.2.2.1, .int .i64 y.2.2.2.1, .bool y.2.2.2.2.1], .arr tVersion y.2.2.2.2.2]⟩) := by rw [wst]; kernel_rfl
theorem w26 : vao G24 ⟨3, 20, vto⟩ (Try.f221.body.getD .skip) :=
  vah (ids := []) (by kernel_rfl) (by kernel_rfl) trivial
def vua : Nat → Option LoopSpec
  | 1000000 => some ⟨[2], [], fun _ _ _ => none⟩
  | _ => none
theorem wy3 (a0 : Int) (a1 : Int) (a2 : ByteArray) (a3 : Int) (a4 : Bool) (a5 : (List vac)) : var G24 vua Try.f221 [.bp 0 0, .bp 1 0] [.box [.bp 2 0], .box [.own 3, .nilS, .nilS, .int .i64 a0, .int .i64 a1], .box [.str a2, .int .i64 a3, .bool a4], .arr tVersion a5] = v7f a0 a1 a2 a3 a4 a5 (fun (y : q43T) => some ⟨.ret, [.tup []], [.box [.bp 2 0], .box [.own 4, .nilS, .nilS, .int .i64 y.1, .int .i64 y.2.1], .box [.str y.2.2.1, .int .i64 y.2.2.2.1, .bool y.2.2.2.2.1], .gone, .arr tVersion y.2.2.2.2.2]⟩) := by rw [wl8]; kernel_rfl
theorem w07 : vao G24 ⟨4, 20, vua⟩ (Try.f221.body.getD .skip) :=
  vah (ids := []) (by kernel_rfl) (by kernel_rfl) trivial
theorem w15 : val Try.prog 221 wia := by
  refine told G24_ok follows Try.func221 (c := Try.f221.body.getD .skip) (by kernel_rfl) ?_
  intro args s k r hk
  unfold wia at hk
  rcases vag hk with ⟨p, q, rfl, rfl⟩ | hk
  · exact ⟨vto, (w0w q.2.1.2.2.2.1 q.2.1.2.2.2.2.1 q.2.2.1.1 q.2.2.1.2.1 q.2.2.1.2.2.1).map _, wyc q.2.1.2.2.2.1 q.2.1.2.2.2.2.1 q.2.2.1.1 q.2.2.1.2.1 q.2.2.1.2.2.1, w26⟩
  rcases vag hk with ⟨p, q, rfl, rfl⟩ | hk
  · exact ⟨vua, (wtl q.2.1.2.2.2.1 q.2.1.2.2.2.2.1 q.2.2.1.1 q.2.2.1.2.1 q.2.2.1.2.2.1 q.2.2.2.1).map _, wy3 q.2.1.2.2.2.1 q.2.1.2.2.2.2.1 q.2.2.1.1 q.2.2.1.2.1 q.2.2.1.2.2.1 q.2.2.2.1, w07⟩
  cases hk
def G25 : Glob := G24.add 221 wia
theorem G25_ok : GlobOk Try.prog G25 := G24_ok.add ⟨Try.f221, Try.func221, by kernel_rfl, by kernel_rfl⟩ w15
def vc7 : Nat → Option LoopSpec
  | 6000001 => some ⟨[0, 1, 4, 5], [none, none, none, none, none, none, none, none, some tVersion], fun vals st k => vaj [.bp 0 0, .fn 221 [.bp 1 0, .bp 2 0], .int .i64, .int .i64] [.box [.str, .int .i64, .bool], .box [.bp 0 0], .box [.own 3, .nilS, .nilS, .int .i64, .int .i64], .arr tVersion] vals st (fun p q => veb (p.2.2.1, p.2.2.2.1, q.1.1, q.1.2.1, q.1.2.2.1, q.2.2.1.2.2.2.1, q.2.2.1.2.2.2.2.1, q.2.2.2.1) (fun z => k .norm [.bp 0 0, .fn 221 [.bp 1 0, .bp 2 0], .int .i64 z.1, .int .i64 z.2.1] [.box [.str z.2.2.1, .int .i64 z.2.2.2.1, .bool z.2.2.2.2.1], .box [.bp 0 0], .box [.own 3, .nilS, .nilS, .int .i64 z.2.2.2.2.2.1, .int .i64 z.2.2.2.2.2.2.1], .arr tVersion z.2.2.2.2.2.2.2]))
      (none)⟩
  | 0 => some ⟨[0, 1, 4, 5], [none, none, none, none, none, none, none, none, some tVersion], fun vals st k => vaj [.bp 0 0, .fn 221 [.bp 1 0, .bp 2 0], .int .i64, .int .i64] [.box [.str, .int .i64, .bool], .box [.bp 0 0], .box [.own 3, .nilS, .nilS, .int .i64, .int .i64], .arr tVersion] vals st (fun p q => vai vmz Fuel (p.2.2.1, p.2.2.2.1, q.1.1, q.1.2.1, q.1.2.2.1, q.2.2.1.2.2.2.1, q.2.2.1.2.2.2.2.1, q.2.2.2.1) (fun z => k (.exit 0) [.bp 0 0, .fn 221 [.bp 1 0, .bp 2 0], .int .i64 z.1, .int .i64 z.2.1] [.box [.str z.2.2.1, .int .i64 z.2.2.2.1, .bool z.2.2.2.2.1], .box [.bp 0 0], .box [.own 3, .nilS, .nilS, .int .i64 z.2.2.2.2.2.1, .int .i64 z.2.2.2.2.2.2.1], .arr tVersion z.2.2.2.2.2.2.2]))
      (none)⟩
  | 3000000 => some ⟨[], [none, none, none, none, some tVersion], fun _ _ _ => none⟩
  | _ => none
def voq : q47T → List AV := (fun x => [.bp 0 0, .fn 221 [.bp 1 0, .bp 2 0], .int .i64 x.1, .int .i64 x.2.1])
def vp3 : q47T → St := (fun x => [.box [.str x.2.2.1, .int .i64 x.2.2.2.1, .bool x.2.2.2.2.1], .box [.bp 0 0], .box [.own 3, .nilS, .nilS, .int .i64 x.2.2.2.2.2.1, .int .i64 x.2.2.2.2.2.2.1], .arr tVersion x.2.2.2.2.2.2.2])
def vg5 : q47T → Out × List AV × St := (fun z => (.norm, [.bp 0 0, .fn 221 [.bp 1 0, .bp 2 0], .int .i64 z.1, .int .i64 z.2.1], [.box [.str z.2.2.1, .int .i64 z.2.2.2.1, .bool z.2.2.2.2.1], .box [.bp 0 0], .box [.own 3, .nilS, .nilS, .int .i64 z.2.2.2.2.2.1, .int .i64 z.2.2.2.2.2.2.1], .arr tVersion z.2.2.2.2.2.2.2]))
theorem vy6 (x : q47T) : exec G25 ⟨3, 22, vc7⟩ (vad Try.f220 6000001) (va3 ⟨3, 22, vc7⟩ [0, 1, 4, 5] [none, none, none, none, none, none, none, none, some tVersion]) (va0 (vay 22) [0, 1, 4, 5] (voq x)) (vp3 x) = veb x (fun z => some ⟨(vg5 z).1, (vg5 z).2.1, (vg5 z).2.2⟩) := by
  kernel_rfl
theorem vyy : ∀ sp, (vc7 6000001) = some sp → vep G25 ⟨3, 22, vc7⟩ sp (vad Try.f220 6000001) := by
  intro sp hsp vals st k r h
  cases hsp
  dsimp only at h
  rcases vae h with ⟨p, q, rfl, rfl, h⟩ | h
  · exact va5 vo2 voq vp3 vg5 vy6 (p.2.2.1, p.2.2.2.1, q.1.1, q.1.2.1, q.1.2.2.1, q.2.2.1.2.2.2.1, q.2.2.1.2.2.2.2.1, q.2.2.2.1) _ k r (fun z => rfl) h
  cases h
def v71 : q47T → List AV := (fun x => [.bp 0 0, .fn 221 [.bp 1 0, .bp 2 0], .int .i64 x.1, .int .i64 x.2.1])
def wap : q47T → St := (fun x => [.box [.str x.2.2.1, .int .i64 x.2.2.2.1, .bool x.2.2.2.2.1], .box [.bp 0 0], .box [.own 3, .nilS, .nilS, .int .i64 x.2.2.2.2.2.1, .int .i64 x.2.2.2.2.2.2.1], .arr tVersion x.2.2.2.2.2.2.2])
def v4j : q47T → Out × List AV × St := (fun z => ((.exit 0), [.bp 0 0, .fn 221 [.bp 1 0, .bp 2 0], .int .i64 z.1, .int .i64 z.2.1], [.box [.str z.2.2.1, .int .i64 z.2.2.2.1, .bool z.2.2.2.2.1], .box [.bp 0 0], .box [.own 3, .nilS, .nilS, .int .i64 z.2.2.2.2.2.1, .int .i64 z.2.2.2.2.2.2.1], .arr tVersion z.2.2.2.2.2.2.2]))
theorem wot (x : q47T) : exec G25 ⟨3, 22, vc7⟩ (vad Try.f220 0) (va3 ⟨3, 22, vc7⟩ [0, 1, 4, 5] [none, none, none, none, none, none, none, none, some tVersion]) (va0 (vay 22) [0, 1, 4, 5] (v71 x)) (wap x) = vmz x (Sum.elim (fun y => some ⟨.norm, v71 y, wap y⟩) fun z => some ⟨(v4j z).1, (v4j z).2.1, (v4j z).2.2⟩) := by
  kernel_rfl
theorem wob : ∀ sp, (vc7 0) = some sp → vbc G25 ⟨3, 22, vc7⟩ sp (vad Try.f220 0) := by
  intro sp hsp vals st k r h
  cases hsp
  dsimp only at h
  rcases vae h with ⟨p, q, rfl, rfl, h⟩ | h
  · exact vaq wbw v71 wap v4j (fun z => by (intro h; cases h)) wot Fuel (p.2.2.1, p.2.2.2.1, q.1.1, q.1.2.1, q.1.2.2.1, q.2.2.1.2.2.2.1, q.2.2.1.2.2.2.2.1, q.2.2.2.1) _ k r (fun z => rfl) h
  cases h
theorem wy2 (a0 : ByteArray) (a1 : Int) (a2 : Bool) (a3 : Int) (a4 : Int) : var G25 vc7 Try.f220 [.bp 0 0, .fn 221 [.bp 1 0, .bp 2 0]] [.box [.str a0, .int .i64 a1, .bool a2], .box [.bp 0 0], .box [.nilS, .nilS, .nilS, .int .i64 a3, .int .i64 a4]] = v10 a0 a1 a2 a3 a4 (fun (y : q32T) => some ⟨.ret, [.tup []], [.box [.str y.1, .int .i64 y.2.1, .bool y.2.2.1], .box [.bp 0 0], .box [.own 3, .nilS, .nilS, .int .i64 y.2.2.2.1, .int .i64 y.2.2.2.2.1], .arr tVersion y.2.2.2.2.2]⟩) := by rw [wja]; kernel_rfl
theorem w25 : vao G25 ⟨3, 22, vc7⟩ (Try.f220.body.getD .skip) :=
  vah (ids := [6000001, 0]) (by kernel_rfl) (by kernel_rfl) ⟨vyy, ⟨wob, trivial⟩⟩
theorem vi3 : val Try.prog 220 vdy := by
  refine told G25_ok follows Try.func220 (c := Try.f220.body.getD .skip) (by kernel_rfl) ?_
  intro args s k r hk
  unfold vdy at hk
  rcases vag hk with ⟨p, q, rfl, rfl⟩ | hk
  · exact ⟨vc7, (ws9 q.1.1 q.1.2.1 q.1.2.2.1 q.2.2.1.2.2.2.1 q.2.2.1.2.2.2.2.1).map _, wy2 q.1.1 q.1.2.1 q.1.2.2.1 q.2.2.1.2.2.2.1 q.2.2.1.2.2.2.2.1, w25⟩
  cases hk
def G26 : Glob := G25.add 220 vdy
theorem G26_ok : GlobOk Try.prog G26 := G25_ok.add ⟨Try.f220, Try.func220, by kernel_rfl, by kernel_rfl⟩ vi3
def vtc : Nat → Option LoopSpec
  | 1000000 => some ⟨[2], [], fun _ _ _ => none⟩
  | _ => none
theorem wy1 (a0 : Int) (a1 : Int) (a2 : Int) (a3 : Int) (a4 : Bool) (a5 : ByteArray) (a6 : ByteArray) (a7 : Int) (a8 : Bool) : var G26 vtc Try.f260 [.bp 0 0, .bp 1 0] [.box [.int .i64 a0, .int .i64 a1, .int .i64 a2, .int .i64 a3, .nilS, .nilS, .bool a4, .str a5], .box [.bp 2 0], .box [.str a6, .int .i64 a7, .bool a8]] = wcj a0 a1 a2 a3 a4 a5 a6 a7 a8 (fun (y : q54T) => some ⟨.ret, [.tup []], [.box [.int .i64 y.1, .int .i64 y.2.1, .int .i64 y.2.2.1, .int .i64 y.2.2.2.1, .own 3, .nilS, .bool y.2.2.2.2.1, .str y.2.2.2.2.2.1], .box [.bp 2 0], .box [.str y.2.2.2.2.2.2.1, .int .i64 y.2.2.2.2.2.2.2.1, .bool y.2.2.2.2.2.2.2.2.1], .arr tRange y.2.2.2.2.2.2.2.2.2]⟩) := by rw [wtq]; kernel_rfl
theorem wz6 : vao G26 ⟨3, 12, vtc⟩ (Try.f260.body.getD .skip) :=
  vah (ids := []) (by kernel_rfl) (by kernel_rfl) trivial
def vty : Nat → Option LoopSpec
  | 1000000 => some ⟨[2, 3], [], fun _ _ _ => none⟩
  | _ => none
theorem wy9 (a0 : Int) (a1 : Int) (a2 : Int) (a3 : Int) (a4 : Bool) (a5 : ByteArray) (a6 : (List van)) (a7 : ByteArray) (a8 : Int) (a9 : Bool) : var G26 vty Try.f260 [.bp 0 0, .bp 1 0] [.box [.int .i64 a0, .int .i64 a1, .int .i64 a2, .int .i64 a3, .own 2, .nilS, .bool a4, .str a5], .box [.bp 3 0], .arr tRange a6, .box [.str a7, .int .i64 a8, .bool a9]] = v6s a0 a1 a2 a3 a4 a5 a6 a7 a8 a9 (fun (y : q54T) => some ⟨.ret, [.tup []], [.box [.int .i64 y.1, .int .i64 y.2.1, .int .i64 y.2.2.1, .int .i64 y.2.2.2.1, .own 4, .nilS, .bool y.2.2.2.2.1, .str y.2.2.2.2.2.1], .box [.bp 3 0], .gone, .box [.str y.2.2.2.2.2.2.1, .int .i64 y.2.2.2.2.2.2.2.1, .bool y.2.2.2.2.2.2.2.2.1], .arr tRange y.2.2.2.2.2.2.2.2.2]⟩) := by rw [wmt]; kernel_rfl
theorem w1i : vao G26 ⟨4, 12, vty⟩ (Try.f260.body.getD .skip) :=
  vah (ids := []) (by kernel_rfl) (by kernel_rfl) trivial
theorem wyd : val Try.prog 260 wkm := by
  refine told G26_ok follows Try.func260 (c := Try.f260.body.getD .skip) (by kernel_rfl) ?_
  intro args s k r hk
  unfold wkm at hk
  rcases vag hk with ⟨p, q, rfl, rfl⟩ | hk
  · exact ⟨vtc, (wwz q.1.1 q.1.2.1 q.1.2.2.1 q.1.2.2.2.1 q.1.2.2.2.2.2.2.1 q.1.2.2.2.2.2.2.2.1 q.2.2.1.1 q.2.2.1.2.1 q.2.2.1.2.2.1).map _, wy1 q.1.1 q.1.2.1 q.1.2.2.1 q.1.2.2.2.1 q.1.2.2.2.2.2.2.1 q.1.2.2.2.2.2.2.2.1 q.2.2.1.1 q.2.2.1.2.1 q.2.2.1.2.2.1, wz6⟩
  rcases vag hk with ⟨p, q, rfl, rfl⟩ | hk
  · exact ⟨vty, (ws6 q.1.1 q.1.2.1 q.1.2.2.1 q.1.2.2.2.1 q.1.2.2.2.2.2.2.1 q.1.2.2.2.2.2.2.2.1 q.2.2.1 q.2.2.2.1.1 q.2.2.2.1.2.1 q.2.2.2.1.2.2.1).map _, wy9 q.1.1 q.1.2.1 q.1.2.2.1 q.1.2.2.2.1 q.1.2.2.2.2.2.2.1 q.1.2.2.2.2.2.2.2.1 q.2.2.1 q.2.2.2.1.1 q.2.2.2.1.2.1 q.2.2.2.1.2.2.1, w1i⟩
  cases hk
def G27 : Glob := G26.add 260 wkm
theorem G27_ok : GlobOk Try.prog G27 := G26_ok.add ⟨Try.f260, Try.func260, by kernel_rfl, by kernel_rfl⟩ wyd
def vcz : Nat → Option LoopSpec
  | 6000001 => some ⟨[0, 1, 4, 5], [none, none, none, none, none, none, none, none, none, none, none, some tRange], fun vals st k => vaj [.bp 0 0, .fn 260 [.bp 1 0, .bp 2 0], .int .i64, .int .i64] [.box [.str, .int .i64, .bool], .box [.int .i64, .int .i64, .int .i64, .int .i64, .own 3, .nilS, .bool, .str], .box [.bp 0 0], .arr tRange] vals st (fun p q => vel (p.2.2.1, p.2.2.2.1, q.1.1, q.1.2.1, q.1.2.2.1, q.2.1.1, q.2.1.2.1, q.2.1.2.2.1, q.2.1.2.2.2.1, q.2.1.2.2.2.2.2.2.1, q.2.1.2.2.2.2.2.2.2.1, q.2.2.2.1) (fun z => k .norm [.bp 0 0, .fn 260 [.bp 1 0, .bp 2 0], .int .i64 z.1, .int .i64 z.2.1] [.box [.str z.2.2.1, .int .i64 z.2.2.2.1, .bool z.2.2.2.2.1], .box [.int .i64 z.2.2.2.2.2.1, .int .i64 z.2.2.2.2.2.2.1, .int .i64 z.2.2.2.2.2.2.2.1, .int .i64 z.2.2.2.2.2.2.2.2.1, .own 3, .nilS, .bool z.2.2.2.2.2.2.2.2.2.1, .str z.2.2.2.2.2.2.2.2.2.2.1], .box [.bp 0 0], .arr tRange z.2.2.2.2.2.2.2.2.2.2.2]))
      (none)⟩
  | 0 => some ⟨[0, 1, 4, 5], [none, none, none, none, none, none, none, none, none, none, none, some tRange], fun vals st k => vaj [.bp 0 0, .fn 260 [.bp 1 0, .bp 2 0], .int .i64, .int .i64] [.box [.str, .int .i64, .bool], .box [.int .i64, .int .i64, .int .i64, .int .i64, .own 3, .nilS, .bool, .str], .box [.bp 0 0], .arr tRange] vals st (fun p q => vai vml Fuel (p.2.2.1, p.2.2.2.1, q.1.1, q.1.2.1, q.1.2.2.1, q.2.1.1, q.2.1.2.1, q.2.1.2.2.1, q.2.1.2.2.2.1, q.2.1.2.2.2.2.2.2.1, q.2.1.2.2.2.2.2.2.2.1, q.2.2.2.1) (fun z => k (.exit 0) [.bp 0 0, .fn 260 [.bp 1 0, .bp 2 0], .int .i64 z.1, .int .i64 z.2.1] [.box [.str z.2.2.1, .int .i64 z.2.2.2.1, .bool z.2.2.2.2.1], .box [.int .i64 z.2.2.2.2.2.1, .int .i64 z.2.2.2.2.2.2.1, .int .i64 z.2.2.2.2.2.2.2.1, .int .i64 z.2.2.2.2.2.2.2.2.1, .own 3, .nilS, .bool z.2.2.2.2.2.2.2.2.2.1, .str z.2.2.2.2.2.2.2.2.2.2.1], .box [.bp 0 0], .arr tRange z.2.2.2.2.2.2.2.2.2.2.2]))
      (none)⟩
  | 3000000 => some ⟨[], [none, none, none, none, none, none, none, some tRange], fun _ _ _ => none⟩
  | _ => none
def voo : q49T → List AV := (fun x => [.bp 0 0, .fn 260 [.bp 1 0, .bp 2 0], .int .i64 x.1, .int .i64 x.2.1])
def vqs : q49T → St := (fun x => [.box [.str x.2.2.1, .int .i64 x.2.2.2.1, .bool x.2.2.2.2.1], .box [.int .i64 x.2.2.2.2.2.1, .int .i64 x.2.2.2.2.2.2.1, .int .i64 x.2.2.2.2.2.2.2.1, .int .i64 x.2.2.2.2.2.2.2.2.1, .own 3, .nilS, .bool x.2.2.2.2.2.2.2.2.2.1, .str x.2.2.2.2.2.2.2.2.2.2.1], .box [.bp 0 0], .arr tRange x.2.2.2.2.2.2.2.2.2.2.2])
def vg7 : q49T → Out × List AV × St := (fun z => (.norm, [.bp 0 0, .fn 260 [.bp 1 0, .bp 2 0], .int .i64 z.1, .int .i64 z.2.1], [.box [.str z.2.2.1, .int .i64 z.2.2.2.1, .bool z.2.2.2.2.1], .box [.int .i64 z.2.2.2.2.2.1, .int .i64 z.2.2.2.2.2.2.1, .int .i64 z.2.2.2.2.2.2.2.1, .int .i64 z.2.2.2.2.2.2.2.2.1, .own 3, .nilS, .bool z.2.2.2.2.2.2.2.2.2.1, .str z.2.2.2.2.2.2.2.2.2.2.1], .box [.bp 0 0], .arr tRange z.2.2.2.2.2.2.2.2.2.2.2]))
theorem vyk (x : q49T) : exec G27 ⟨3, 22, vcz⟩ (vad Try.f220 6000001) (va3 ⟨3, 22, vcz⟩ [0, 1, 4, 5] [none, none, none, none, none, none, none, none, none, none, none, some tRange]) (va0 (vay 22) [0, 1, 4, 5] (voo x)) (vqs x) = vel x (fun z => some ⟨(vg7 z).1, (vg7 z).2.1, (vg7 z).2.2⟩) := by
  kernel_rfl
theorem v0c : ∀ sp, (vcz 6000001) = some sp → vep G27 ⟨3, 22, vcz⟩ sp (vad Try.f220 6000001) := by
  intro sp hsp vals st k r h
  cases hsp
  dsimp only at h
  rcases vae h with ⟨p, q, rfl, rfl, h⟩ | h
  · exact va5 vo4 voo vqs vg7 vyk (p.2.2.1, p.2.2.2.1, q.1.1, q.1.2.1, q.1.2.2.1, q.2.1.1, q.2.1.2.1, q.2.1.2.2.1, q.2.1.2.2.2.1, q.2.1.2.2.2.2.2.2.1, q.2.1.2.2.2.2.2.2.2.1, q.2.2.2.1) _ k r (fun z => rfl) h
  cases h
def v83 : q49T → List AV := (fun x => [.bp 0 0, .fn 260 [.bp 1 0, .bp 2 0], .int .i64 x.1, .int .i64 x.2.1])
def wba : q49T → St := (fun x => [.box [.str x.2.2.1, .int .i64 x.2.2.2.1, .bool x.2.2.2.2.1], .box [.int .i64 x.2.2.2.2.2.1, .int .i64 x.2.2.2.2.2.2.1, .int .i64 x.2.2.2.2.2.2.2.1, .int .i64 x.2.2.2.2.2.2.2.2.1, .own 3, .nilS, .bool x.2.2.2.2.2.2.2.2.2.1, .str x.2.2.2.2.2.2.2.2.2.2.1], .box [.bp 0 0], .arr tRange x.2.2.2.2.2.2.2.2.2.2.2])
def v3x : q49T → Out × List AV × St := (fun z => ((.exit 0), [.bp 0 0, .fn 260 [.bp 1 0, .bp 2 0], .int .i64 z.1, .int .i64 z.2.1], [.box [.str z.2.2.1, .int .i64 z.2.2.2.1, .bool z.2.2.2.2.1], .box [.int .i64 z.2.2.2.2.2.1, .int .i64 z.2.2.2.2.2.2.1, .int .i64 z.2.2.2.2.2.2.2.1, .int .i64 z.2.2.2.2.2.2.2.2.1, .own 3, .nilS, .bool z.2.2.2.2.2.2.2.2.2.1, .str z.2.2.2.2.2.2.2.2.2.2.1], .box [.bp 0 0], .arr tRange z.2.2.2.2.2.2.2.2.2.2.2]))
theorem wqw (x : q49T) : exec G27 ⟨3, 22, vcz⟩ (vad Try.f220 0) (va3 ⟨3, 22, vcz⟩ [0, 1, 4, 5] [none, none, none, none, none, none, none, none, none, none, none, some tRange]) (va0 (vay 22) [0, 1, 4, 5] (v83 x)) (wba x) = vml x (Sum.elim (fun y => some ⟨.norm, v83 y, wba y⟩) fun z => some ⟨(v3x z).1, (v3x z).2.1, (v3x z).2.2⟩) := by
  kernel_rfl
theorem wqj : ∀ sp, (vcz 0) = some sp → vbc G27 ⟨3, 22, vcz⟩ sp (vad Try.f220 0) := by
  intro sp hsp vals st k r h
  cases hsp
  dsimp only at h
  rcases vae h with ⟨p, q, rfl, rfl, h⟩ | h
  · exact vaq wfc v83 wba v3x (fun z => by (intro h; cases h)) wqw Fuel (p.2.2.1, p.2.2.2.1, q.1.1, q.1.2.1, q.1.2.2.1, q.2.1.1, q.2.1.2.1, q.2.1.2.2.1, q.2.1.2.2.2.1, q.2.1.2.2.2.2.2.2.1, q.2.1.2.2.2.2.2.2.2.1, q.2.2.2.1) _ k r (fun z => rfl) h
  cases h
theorem w12 (a0 : ByteArray) (a1 : Int) (a2 : Bool) (a3 : Int) (a4 : Int) (a5 : Int) (a6 : Int) (a7 : Bool) (a8 : ByteArray) : var G27 vcz Try.f220 [.bp 0 0, .fn 260 [.bp 1 0, .bp 2 0]] [.box [.str a0, .int .i64 a1, .bool a2], .box [.int .i64 a3, .int .i64 a4, .int .i64 a5, .int .i64 a6, .nilS, .nilS, .bool a7, .str a8], .box [.bp 0 0]] = v1t a0 a1 a2 a3 a4 a5 a6 a7 a8 (fun (y : q34T) => some ⟨.ret, [.tup []], [.box [.str y.1, .int .i64 y.2.1, .bool y.2.2.1], .box [.int .i64 y.2.2.2.1, .int .i64 y.2.2.2.2.1, .int .i64 y.2.2.2.2.2.1, .int .i64 y.2.2.2.2.2.2.1, .own 3, .nilS, .bool y.2.2.2.2.2.2.2.1, .str y.2.2.2.2.2.2.2.2.1], .box [.bp 0 0], .arr tRange y.2.2.2.2.2.2.2.2.2]⟩) := by rw [wht]; kernel_rfl
theorem w1a : vao G27 ⟨3, 22, vcz⟩ (Try.f220.body.getD .skip) :=
  vah (ids := [6000001, 0]) (by kernel_rfl) (by kernel_rfl) ⟨v0c, ⟨wqj, trivial⟩⟩
theorem viy : val Try.prog 220 vdn := by
  refine wgl G27_ok follows Try.func220 (c := Try.f220.body.getD .skip) (by kernel_rfl) vi3 ?_
  intro args s k r hk
  unfold vdn at hk
  rcases vag hk with ⟨p, q, rfl, rfl⟩ | hk
  · exact .inl ⟨vcz, (wts q.1.1 q.1.2.1 q.1.2.2.1 q.2.1.1 q.2.1.2.1 q.2.1.2.2.1 q.2.1.2.2.2.1 q.2.1.2.2.2.2.2.2.1 q.2.1.2.2.2.2.2.2.2.1).map _, w12 q.1.1 q.1.2.1 q.1.2.2.1 q.2.1.1 q.2.1.2.1 q.2.1.2.2.1 q.2.1.2.2.2.1 q.2.1.2.2.2.2.2.2.1 q.2.1.2.2.2.2.2.2.2.1, w1a⟩
  exact .inr hk
def G28 : Glob := G27.add 220 vdn
theorem G28_ok : GlobOk Try.prog G28 := G27_ok.add ⟨Try.f220, Try.func220, by kernel_rfl, by kernel_rfl⟩ viy
def vt7 : Nat → Option LoopSpec
  | 1000000 => some ⟨[2], [], fun _ _ _ => none⟩
  | _ => none
theorem wxt (a0 : Int) (a1 : Int) (a2 : Int) (a3 : Int) (a4 : Bool) (a5 : ByteArray) (a6 : ByteArray) (a7 : Int) (a8 : Bool) (a9 : (List van)) : var G28 vt7 Try.f261 [.bp 0 0, .bp 1 0] [.box [.bp 2 0], .box [.int .i64 a0, .int .i64 a1, .int .i64 a2, .int .i64 a3, .own 3, .nilS, .bool a4, .str a5], .box [.str a6, .int .i64 a7, .bool a8], .arr tRange a9] = wds a0 a1 a2 a3 a4 a5 a6 a7 a8 a9 (fun (y : q53T) => some ⟨.ret, [.tup []], [.box [.bp 2 0], .box [.int .i64 y.1, .int .i64 y.2.1, .int .i64 y.2.2.1, .int .i64 y.2.2.2.1, .own 3, .own 4, .bool y.2.2.2.2.1, .str y.2.2.2.2.2.1], .box [.str y.2.2.2.2.2.2.1, .int .i64 y.2.2.2.2.2.2.2.1, .bool y.2.2.2.2.2.2.2.2.1], .arr tRange y.2.2.2.2.2.2.2.2.2.1, .arr tWrite y.2.2.2.2.2.2.2.2.2.2]⟩) := by rw [wsx]; kernel_rfl
theorem w1g : vao G28 ⟨4, 17, vt7⟩ (Try.f261.body.getD .skip) :=
  vah (ids := []) (by kernel_rfl) (by kernel_rfl) trivial
def vtk : Nat → Option LoopSpec
  | 1000000 => some ⟨[2], [], fun _ _ _ => none⟩
  | _ => none
theorem wwi (a0 : Int) (a1 : Int) (a2 : Int) (a3 : Int) (a4 : Bool) (a5 : ByteArray) (a6 : ByteArray) (a7 : Int) (a8 : Bool) (a9 : (List van)) (a10 : (List vam)) : var G28 vtk Try.f261 [.bp 0 0, .bp 1 0] [.box [.bp 2 0], .box [.int .i64 a0, .int .i64 a1, .int .i64 a2, .int .i64 a3, .own 3, .own 4, .bool a4, .str a5], .box [.str a6, .int .i64 a7, .bool a8], .arr tRange a9, .arr tWrite a10] = v6z a0 a1 a2 a3 a4 a5 a6 a7 a8 a9 a10 (fun (y : q53T) => some ⟨.ret, [.tup []], [.box [.bp 2 0], .box [.int .i64 y.1, .int .i64 y.2.1, .int .i64 y.2.2.1, .int .i64 y.2.2.2.1, .own 3, .own 5, .bool y.2.2.2.2.1, .str y.2.2.2.2.2.1], .box [.str y.2.2.2.2.2.2.1, .int .i64 y.2.2.2.2.2.2.2.1, .bool y.2.2.2.2.2.2.2.2.1], .arr tRange y.2.2.2.2.2.2.2.2.2.1, .gone, .arr tWrite y.2.2.2.2.2.2.2.2.2.2]⟩) := by rw [wl0]; kernel_rfl
theorem wy8 : vao G28 ⟨5, 17, vtk⟩ (Try.f261.body.getD .skip) :=
  vah (ids := []) (by kernel_rfl) (by kernel_rfl) trivial
theorem wz0 : val Try.prog 261 wh8 := by
  refine told G28_ok follows Try.func261 (c := Try.f261.body.getD .skip) (by kernel_rfl) ?_
  intro args s k r hk
  unfold wh8 at hk
  rcases vag hk with ⟨p, q, rfl, rfl⟩ | hk
  · exact ⟨vt7, (wxe q.2.1.1 q.2.1.2.1 q.2.1.2.2.1 q.2.1.2.2.2.1 q.2.1.2.2.2.2.2.2.1 q.2.1.2.2.2.2.2.2.2.1 q.2.2.1.1 q.2.2.1.2.1 q.2.2.1.2.2.1 q.2.2.2.1).map _, wxt q.2.1.1 q.2.1.2.1 q.2.1.2.2.1 q.2.1.2.2.2.1 q.2.1.2.2.2.2.2.2.1 q.2.1.2.2.2.2.2.2.2.1 q.2.2.1.1 q.2.2.1.2.1 q.2.2.1.2.2.1 q.2.2.2.1, w1g⟩
  rcases vag hk with ⟨p, q, rfl, rfl⟩ | hk
  · exact ⟨vtk, (wuj q.2.1.1 q.2.1.2.1 q.2.1.2.2.1 q.2.1.2.2.2.1 q.2.1.2.2.2.2.2.2.1 q.2.1.2.2.2.2.2.2.2.1 q.2.2.1.1 q.2.2.1.2.1 q.2.2.1.2.2.1 q.2.2.2.1 q.2.2.2.2.1).map _, wwi q.2.1.1 q.2.1.2.1 q.2.1.2.2.1 q.2.1.2.2.2.1 q.2.1.2.2.2.2.2.2.1 q.2.1.2.2.2.2.2.2.2.1 q.2.2.1.1 q.2.2.1.2.1 q.2.2.1.2.2.1 q.2.2.2.1 q.2.2.2.2.1, wy8⟩
  cases hk
def G29 : Glob := G28.add 261 wh8
theorem G29_ok : GlobOk Try.prog G29 := G28_ok.add ⟨Try.f261, Try.func261, by kernel_rfl, by kernel_rfl⟩ wz0
def vc2 : Nat → Option LoopSpec
  | 6000001 => some ⟨[0, 1, 4, 5], [none, none, none, none, none, none, none, none, none, none, none, none, none, some tWrite], fun vals st k => vaj [.bp 0 0, .fn 261 [.bp 1 0, .bp 2 0], .int .i64, .int .i64] [.box [.str, .int .i64, .bool], .box [.bp 0 0], .box [.int .i64, .int .i64, .int .i64, .int .i64, .own 3, .own 4, .bool, .str], .arr tRange, .arr tWrite] vals st (fun p q => veh (p.2.2.1, p.2.2.2.1, q.1.1, q.1.2.1, q.1.2.2.1, q.2.2.1.1, q.2.2.1.2.1, q.2.2.1.2.2.1, q.2.2.1.2.2.2.1, q.2.2.1.2.2.2.2.2.2.1, q.2.2.1.2.2.2.2.2.2.2.1, q.2.2.2.1, q.2.2.2.2.1) (fun z => k .norm [.bp 0 0, .fn 261 [.bp 1 0, .bp 2 0], .int .i64 z.1, .int .i64 z.2.1] [.box [.str z.2.2.1, .int .i64 z.2.2.2.1, .bool z.2.2.2.2.1], .box [.bp 0 0], .box [.int .i64 z.2.2.2.2.2.1, .int .i64 z.2.2.2.2.2.2.1, .int .i64 z.2.2.2.2.2.2.2.1, .int .i64 z.2.2.2.2.2.2.2.2.1, .own 3, .own 4, .bool z.2.2.2.2.2.2.2.2.2.1, .str z.2.2.2.2.2.2.2.2.2.2.1], .arr tRange z.2.2.2.2.2.2.2.2.2.2.2.1, .arr tWrite z.2.2.2.2.2.2.2.2.2.2.2.2]))
      (none)⟩
  | 0 => some ⟨[0, 1, 4, 5], [none, none, none, none, none, none, none, none, none, none, none, none, none, some tWrite], fun vals st k => vaj [.bp 0 0, .fn 261 [.bp 1 0, .bp 2 0], .int .i64, .int .i64] [.box [.str, .int .i64, .bool], .box [.bp 0 0], .box [.int .i64, .int .i64, .int .i64, .int .i64, .own 3, .own 4, .bool, .str], .arr tRange, .arr tWrite] vals st (fun p q => vai vmq Fuel (p.2.2.1, p.2.2.2.1, q.1.1, q.1.2.1, q.1.2.2.1, q.2.2.1.1, q.2.2.1.2.1, q.2.2.1.2.2.1, q.2.2.1.2.2.2.1, q.2.2.1.2.2.2.2.2.2.1, q.2.2.1.2.2.2.2.2.2.2.1, q.2.2.2.1, q.2.2.2.2.1) (fun z => k (.exit 0) [.bp 0 0, .fn 261 [.bp 1 0, .bp 2 0], .int .i64 z.1, .int .i64 z.2.1] [.box [.str z.2.2.1, .int .i64 z.2.2.2.1, .bool z.2.2.2.2.1], .box [.bp 0 0], .box [.int .i64 z.2.2.2.2.2.1, .int .i64 z.2.2.2.2.2.2.1, .int .i64 z.2.2.2.2.2.2.2.1, .int .i64 z.2.2.2.2.2.2.2.2.1, .own 3, .own 4, .bool z.2.2.2.2.2.2.2.2.2.1, .str z.2.2.2.2.2.2.2.2.2.2.1], .arr tRange z.2.2.2.2.2.2.2.2.2.2.2.1, .arr tWrite z.2.2.2.2.2.2.2.2.2.2.2.2]))
      (none)⟩
  | 3000000 => some ⟨[], [none, none, none, none, none, none, none, none, none, some tWrite], fun _ _ _ => none⟩
  | _ => none
def voc : q48T → List AV := (fun x => [.bp 0 0, .fn 261 [.bp 1 0, .bp 2 0], .int .i64 x.1, .int .i64 x.2.1])
def vpu : q48T → St := (fun x => [.box [.str x.2.2.1, .int .i64 x.2.2.2.1, .bool x.2.2.2.2.1], .box [.bp 0 0], .box [.int .i64 x.2.2.2.2.2.1, .int .i64 x.2.2.2.2.2.2.1, .int .i64 x.2.2.2.2.2.2.2.1, .int .i64 x.2.2.2.2.2.2.2.2.1, .own 3, .own 4, .bool x.2.2.2.2.2.2.2.2.2.1, .str x.2.2.2.2.2.2.2.2.2.2.1], .arr tRange x.2.2.2.2.2.2.2.2.2.2.2.1, .arr tWrite x.2.2.2.2.2.2.2.2.2.2.2.2])
def vgq : q48T → Out × List AV × St := (fun z => (.norm, [.bp 0 0, .fn 261 [.bp 1 0, .bp 2 0], .int .i64 z.1, .int .i64 z.2.1], [.box [.str z.2.2.1, .int .i64 z.2.2.2.1, .bool z.2.2.2.2.1], .box [.bp 0 0], .box [.int .i64 z.2.2.2.2.2.1, .int .i64 z.2.2.2.2.2.2.1, .int .i64 z.2.2.2.2.2.2.2.1, .int .i64 z.2.2.2.2.2.2.2.2.1, .own 3, .own 4, .bool z.2.2.2.2.2.2.2.2.2.1, .str z.2.2.2.2.2.2.2.2.2.2.1], .arr tRange z.2.2.2.2.2.2.2.2.2.2.2.1, .arr tWrite z.2.2.2.2.2.2.2.2.2.2.2.2]))
theorem v0m (x : q48T) : exec G29 ⟨4, 22, vc2⟩ (vad Try.f220 6000001) (va3 ⟨4, 22, vc2⟩ [0, 1, 4, 5] [none, none, none, none, none, none, none, none, none, none, none, none, none, some tWrite]) (va0 (vay 22) [0, 1, 4, 5] (voc x)) (vpu x) = veh x (fun z => some ⟨(vgq z).1, (vgq z).2.1, (vgq z).2.2⟩) := by
  kernel_rfl
theorem vy5 : ∀ sp, (vc2 6000001) = some sp → vep G29 ⟨4, 22, vc2⟩ sp (vad Try.f220 6000001) := by
  intro sp hsp vals st k r h
  cases hsp
  dsimp only at h
  rcases vae h with ⟨p, q, rfl, rfl, h⟩ | h
  · exact va5 vpn voc vpu vgq v0m (p.2.2.1, p.2.2.2.1, q.1.1, q.1.2.1, q.1.2.2.1, q.2.2.1.1, q.2.2.1.2.1, q.2.2.1.2.2.1, q.2.2.1.2.2.2.1, q.2.2.1.2.2.2.2.2.2.1, q.2.2.1.2.2.2.2.2.2.2.1, q.2.2.2.1, q.2.2.2.2.1) _ k r (fun z => rfl) h
  cases h
def v95 : q48T → List AV := (fun x => [.bp 0 0, .fn 261 [.bp 1 0, .bp 2 0], .int .i64 x.1, .int .i64 x.2.1])
def v8z : q48T → St := (fun x => [.box [.str x.2.2.1, .int .i64 x.2.2.2.1, .bool x.2.2.2.2.1], .box [.bp 0 0], .box [.int .i64 x.2.2.2.2.2.1, .int .i64 x.2.2.2.2.2.2.1, .int .i64 x.2.2.2.2.2.2.2.1, .int .i64 x.2.2.2.2.2.2.2.2.1, .own 3, .own 4, .bool x.2.2.2.2.2.2.2.2.2.1, .str x.2.2.2.2.2.2.2.2.2.2.1], .arr tRange x.2.2.2.2.2.2.2.2.2.2.2.1, .arr tWrite x.2.2.2.2.2.2.2.2.2.2.2.2])
def v4z : q48T → Out × List AV × St := (fun z => ((.exit 0), [.bp 0 0, .fn 261 [.bp 1 0, .bp 2 0], .int .i64 z.1, .int .i64 z.2.1], [.box [.str z.2.2.1, .int .i64 z.2.2.2.1, .bool z.2.2.2.2.1], .box [.bp 0 0], .box [.int .i64 z.2.2.2.2.2.1, .int .i64 z.2.2.2.2.2.2.1, .int .i64 z.2.2.2.2.2.2.2.1, .int .i64 z.2.2.2.2.2.2.2.2.1, .own 3, .own 4, .bool z.2.2.2.2.2.2.2.2.2.1, .str z.2.2.2.2.2.2.2.2.2.2.1], .arr tRange z.2.2.2.2.2.2.2.2.2.2.2.1, .arr tWrite z.2.2.2.2.2.2.2.2.2.2.2.2]))
theorem wqg (x : q48T) : exec G29 ⟨4, 22, vc2⟩ (vad Try.f220 0) (va3 ⟨4, 22, vc2⟩ [0, 1, 4, 5] [none, none, none, none, none, none, none, none, none, none, none, none, none, some tWrite]) (va0 (vay 22) [0, 1, 4, 5] (v95 x)) (v8z x) = vmq x (Sum.elim (fun y => some ⟨.norm, v95 y, v8z y⟩) fun z => some ⟨(v4z z).1, (v4z z).2.1, (v4z z).2.2⟩) := by
  kernel_rfl
theorem wox : ∀ sp, (vc2 0) = some sp → vbc G29 ⟨4, 22, vc2⟩ sp (vad Try.f220 0) := by
  intro sp hsp vals st k r h
  cases hsp
  dsimp only at h
  rcases vae h with ⟨p, q, rfl, rfl, h⟩ | h
  · exact vaq wfr v95 v8z v4z (fun z => by (intro h; cases h)) wqg Fuel (p.2.2.1, p.2.2.2.1, q.1.1, q.1.2.1, q.1.2.2.1, q.2.2.1.1, q.2.2.1.2.1, q.2.2.1.2.2.1, q.2.2.1.2.2.2.1, q.2.2.1.2.2.2.2.2.2.1, q.2.2.1.2.2.2.2.2.2.2.1, q.2.2.2.1, q.2.2.2.2.1) _ k r (fun z => rfl) h
  cases h
theorem wz2 (a0 : ByteArray) (a1 : Int) (a2 : Bool) (a3 : Int) (a4 : Int) (a5 : Int) (a6 : Int) (a7 : Bool) (a8 : ByteArray) (a9 : (List van)) : var G29 vc2 Try.f220 [.bp 0 0, .fn 261 [.bp 1 0, .bp 2 0]] [.box [.str a0, .int .i64 a1, .bool a2], .box [.bp 0 0], .box [.int .i64 a3, .int .i64 a4, .int .i64 a5, .int .i64 a6, .own 3, .nilS, .bool a7, .str a8], .arr tRange a9] = v1v a0 a1 a2 a3 a4 a5 a6 a7 a8 a9 (fun (y : q33T) => some ⟨.ret, [.tup []], [.box [.str y.1, .int .i64 y.2.1, .bool y.2.2.1], .box [.bp 0 0], .box [.int .i64 y.2.2.2.1, .int .i64 y.2.2.2.2.1, .int .i64 y.2.2.2.2.2.1, .int .i64 y.2.2.2.2.2.2.1, .own 3, .own 4, .bool y.2.2.2.2.2.2.2.1, .str y.2.2.2.2.2.2.2.2.1], .arr tRange y.2.2.2.2.2.2.2.2.2.1, .arr tWrite y.2.2.2.2.2.2.2.2.2.2]⟩) := by rw [wj0]; kernel_rfl
theorem wz5 : vao G29 ⟨4, 22, vc2⟩ (Try.f220.body.getD .skip) :=
  vah (ids := [6000001, 0]) (by kernel_rfl) (by kernel_rfl) ⟨vy5, ⟨wox, trivial⟩⟩
theorem viv : val Try.prog 220 vde := by
  refine wgl G29_ok follows Try.func220 (c := Try.f220.body.getD .skip) (by kernel_rfl) viy ?_
  intro args s k r hk
  unfold vde at hk
  rcases vag hk with ⟨p, q, rfl, rfl⟩ | hk
  · exact .inl ⟨vc2, (wsw q.1.1 q.1.2.1 q.1.2.2.1 q.2.2.1.1 q.2.2.1.2.1 q.2.2.1.2.2.1 q.2.2.1.2.2.2.1 q.2.2.1.2.2.2.2.2.2.1 q.2.2.1.2.2.2.2.2.2.2.1 q.2.2.2.1).map _, wz2 q.1.1 q.1.2.1 q.1.2.2.1 q.2.2.1.1 q.2.2.1.2.1 q.2.2.1.2.2.1 q.2.2.1.2.2.2.1 q.2.2.1.2.2.2.2.2.2.1 q.2.2.1.2.2.2.2.2.2.2.1 q.2.2.2.1, wz5⟩
  exact .inr hk
def G30 : Glob := G29.add 220 vde
theorem G30_ok : GlobOk Try.prog G30 := G29_ok.add ⟨Try.f220, Try.func220, by kernel_rfl, by kernel_rfl⟩ viv
def vfx : Nat → Option LoopSpec
  | 0 => some ⟨[0, 2, 3], [], fun vals st k => vaj [.str, .bool, .int .i64] [] vals st (fun p q => vai vlp Fuel (p.1, p.2.1, p.2.2.1) (Sum.elim (fun z => k .ret [.str z.1, .bool z.2.1, .int .i64 z.2.2] []) (fun z => k (.exit 0) [.str z.1, .bool z.2.1, .int .i64 z.2.2] [])))
      (none)⟩
  | _ => none
def v8m : (ByteArray × Bool × Int) → List AV := (fun x => [.str x.1, .bool x.2.1, .int .i64 x.2.2])
def v9c : (ByteArray × Bool × Int) → St := (fun x => [])
def v43 : ((ByteArray × Bool × Int) ⊕ (ByteArray × Bool × Int)) → Out × List AV × St := (Sum.elim (fun z => (.ret, [.str z.1, .bool z.2.1, .int .i64 z.2.2], [])) (fun z => ((.exit 0), [.str z.1, .bool z.2.1, .int .i64 z.2.2], [])))
theorem woq (x : (ByteArray × Bool × Int)) : exec G30 ⟨0, 23, vfx⟩ (vad Try.f103 0) (va3 ⟨0, 23, vfx⟩ [0, 2, 3] []) (va0 (vay 23) [0, 2, 3] (v8m x)) (v9c x) = vlp x (Sum.elim (fun y => some ⟨.norm, v8m y, v9c y⟩) fun z => some ⟨(v43 z).1, (v43 z).2.1, (v43 z).2.2⟩) := by
  kernel_rfl
theorem wpz : ∀ sp, (vfx 0) = some sp → vbc G30 ⟨0, 23, vfx⟩ sp (vad Try.f103 0) := by
  intro sp hsp vals st k r h
  cases hsp
  dsimp only at h
  rcases vae h with ⟨p, q, rfl, rfl, h⟩ | h
  · exact vaq wfu v8m v9c v43 (fun z => by rcases z with z | z <;> (intro h; cases h)) woq Fuel (p.1, p.2.1, p.2.2.1) _ k r (fun z => by rcases z with z | z <;> rfl) h
  cases h
theorem w17 (a0 : ByteArray) : var G30 vfx Try.f103 [.str a0] [] = vjw a0 (fun (y : Bool) => some ⟨.ret, [.bool y], []⟩) := by rw [whq]; kernel_rfl
theorem wws : vao G30 ⟨0, 23, vfx⟩ (Try.f103.body.getD .skip) :=
  vah (ids := [0]) (by kernel_rfl) (by kernel_rfl) ⟨wpz, trivial⟩
theorem w0f : val Try.prog 103 wnl := by
  refine told G30_ok follows Try.func103 (c := Try.f103.body.getD .skip) (by kernel_rfl) ?_
  intro args s k r hk
  unfold wnl at hk
  rcases vag hk with ⟨p, q, rfl, rfl⟩ | hk
  · exact ⟨vfx, (v11 p.1).map _, w17 p.1, wws⟩
  cases hk
def G31 : Glob := G30.add 103 wnl
theorem G31_ok : GlobOk Try.prog G31 := G30_ok.add ⟨Try.f103, Try.func103, by kernel_rfl, by kernel_rfl⟩ w0f
def vte : Nat → Option LoopSpec
  | _ => none
theorem wv7 (a0 : ByteArray) (a1 : ByteArray) : var G31 vte Try.f170 [.agg [.str a0, .str a1]] [] = vw3 (a0, a1) (fun (y : Bool) => some ⟨.ret, [.bool y], []⟩) := by rw [wlx]; kernel_rfl
theorem w3g : vao G31 ⟨0, 18, vte⟩ (Try.f170.body.getD .skip) :=
  vah (ids := []) (by kernel_rfl) (by kernel_rfl) trivial
theorem wxp : val Try.prog 170 wln := by
  refine told G31_ok follows Try.func170 (c := Try.f170.body.getD .skip) (by kernel_rfl) ?_
  intro args s k r hk
  unfold wln at hk
  rcases vag hk with ⟨p, q, rfl, rfl⟩ | hk
  · exact ⟨vte, (wt7 (p.1.1, p.1.2.1)).map _, wv7 p.1.1 p.1.2.1, w3g⟩
  cases hk
def G32 : Glob := G31.add 170 wln
theorem G32_ok : GlobOk Try.prog G32 := G31_ok.add ⟨Try.f170, Try.func170, by kernel_rfl, by kernel_rfl⟩ wxp
def vtf : Nat → Option LoopSpec
  | _ => none
theorem wx8 (a0 : ByteArray) (a1 : ByteArray) (a2 : Bool) : var G32 vtf Try.f233 [.agg [.str a0, .str a1, .bool a2]] [] = vw9 (a0, (a1, a2)) (fun (y : Bool) => some ⟨.ret, [.bool y], []⟩) := by rw [wig]; kernel_rfl
theorem wv4 : vao G32 ⟨0, 22, vtf⟩ (Try.f233.body.getD .skip) :=
  vah (ids := []) (by kernel_rfl) (by kernel_rfl) trivial
theorem wxa : val Try.prog 233 wii := by
  refine told G32_ok follows Try.func233 (c := Try.f233.body.getD .skip) (by kernel_rfl) ?_
  intro args s k r hk
  unfold wii at hk
  rcases vag hk with ⟨p, q, rfl, rfl⟩ | hk
  · exact ⟨vtf, (wt5 (p.1.1, (p.1.2.1, p.1.2.2.1))).map _, wx8 p.1.1 p.1.2.1 p.1.2.2.1, wv4⟩
  cases hk
def G33 : Glob := G32.add 233 wii
theorem G33_ok : GlobOk Try.prog G33 := G32_ok.add ⟨Try.f233, Try.func233, by kernel_rfl, by kernel_rfl⟩ wxa
def vf8 : Nat → Option LoopSpec
  | 0 => some ⟨[0, 2, 5, 6, 7], [], fun vals st k => vaj [.lst tWrite, .bool, .lst tWrite, .int .i64, .int .i64] [] vals st (fun p q => vai vkv Fuel (p.1, p.2.1, p.2.2.1, p.2.2.2.1, p.2.2.2.2.1) (Sum.elim (fun z => k .ret [.lst tWrite z.1, .bool z.2.1, .lst tWrite z.2.2.1, .int .i64 z.2.2.2.1, .int .i64 z.2.2.2.2] []) (fun z => k (.exit 0) [.lst tWrite z.1, .bool z.2.1, .lst tWrite z.2.2.1, .int .i64 z.2.2.2.1, .int .i64 z.2.2.2.2] [])))
      (none)⟩
  | 2000004 => some ⟨[0, 3, 4, 6, 8, 10, 12, 14, 16, 18, 20, 22, 24, 26, 28, 30, 32, 34], [], fun _ _ _ => none⟩
  | _ => none
def waf : q13T → List AV := (fun x => [.lst tWrite x.1, .bool x.2.1, .lst tWrite x.2.2.1, .int .i64 x.2.2.2.1, .int .i64 x.2.2.2.2])
def v9z : q13T → St := (fun x => [])
def v4r : (q13T ⊕ q13T) → Out × List AV × St := (Sum.elim (fun z => (.ret, [.lst tWrite z.1, .bool z.2.1, .lst tWrite z.2.2.1, .int .i64 z.2.2.2.1, .int .i64 z.2.2.2.2], [])) (fun z => ((.exit 0), [.lst tWrite z.1, .bool z.2.1, .lst tWrite z.2.2.1, .int .i64 z.2.2.2.1, .int .i64 z.2.2.2.2], [])))
theorem wn5 (x : q13T) : exec G33 ⟨0, 34, vf8⟩ (vad Try.f171 0) (va3 ⟨0, 34, vf8⟩ [0, 2, 5, 6, 7] []) (va0 (vay 34) [0, 2, 5, 6, 7] (waf x)) (v9z x) = vkv x (Sum.elim (fun y => some ⟨.norm, waf y, v9z y⟩) fun z => some ⟨(v4r z).1, (v4r z).2.1, (v4r z).2.2⟩) := by
  kernel_rfl
theorem wrb : ∀ sp, (vf8 0) = some sp → vbc G33 ⟨0, 34, vf8⟩ sp (vad Try.f171 0) := by
  intro sp hsp vals st k r h
  cases hsp
  dsimp only at h
  rcases vae h with ⟨p, q, rfl, rfl, h⟩ | h
  · exact vaq wcv waf v9z v4r (fun z => by rcases z with z | z <;> (intro h; cases h)) wn5 Fuel (p.1, p.2.1, p.2.2.1, p.2.2.2.1, p.2.2.2.2.1) _ k r (fun z => by rcases z with z | z <;> rfl) h
  cases h
theorem wz1 (a0 : (List vam)) : var G33 vf8 Try.f171 [.lst tWrite a0] [] = vuo a0 (fun (y : Bool) => some ⟨.ret, [.bool y], []⟩) := by rw [wmp]; kernel_rfl
theorem w2p : vao G33 ⟨0, 34, vf8⟩ (Try.f171.body.getD .skip) :=
  vah (ids := [0]) (by kernel_rfl) (by kernel_rfl) ⟨wrb, trivial⟩
theorem wzs : val Try.prog 171 wll := by
  refine told G33_ok follows Try.func171 (c := Try.f171.body.getD .skip) (by kernel_rfl) ?_
  intro args s k r hk
  unfold wll at hk
  rcases vag hk with ⟨p, q, rfl, rfl⟩ | hk
  · exact ⟨vf8, (wsv p.1).map _, wz1 p.1, w2p⟩
  cases hk
def G34 : Glob := G33.add 171 wll
theorem G34_ok : GlobOk Try.prog G34 := G33_ok.add ⟨Try.f171, Try.func171, by kernel_rfl, by kernel_rfl⟩ wzs
def vb2 : Nat → Option LoopSpec
  | 5000011 => some ⟨[1, 2], [], fun vals st k => vaj [.bp 0 0, .bool] [.box [.int .i64, .int .i64, .int .i64, .int .i64, .lst tRange, .lst tWrite, .bool, .str]] vals st (fun p q => vb7 (p.2.1, q.1.1, q.1.2.1, q.1.2.2.1, q.1.2.2.2.1, q.1.2.2.2.2.1, q.1.2.2.2.2.2.1, q.1.2.2.2.2.2.2.1, q.1.2.2.2.2.2.2.2.1) (fun z => k .ret [.bp 0 0, .bool z.1] [.box [.int .i64 z.2.1, .int .i64 z.2.2.1, .int .i64 z.2.2.2.1, .int .i64 z.2.2.2.2.1, .lst tRange z.2.2.2.2.2.1, .lst tWrite z.2.2.2.2.2.2.1, .bool z.2.2.2.2.2.2.2.1, .str z.2.2.2.2.2.2.2.2]]))
      (none)⟩
  | 5000009 => some ⟨[1, 2], [], fun vals st k => vaj [.bp 0 0, .bool] [.box [.int .i64, .int .i64, .int .i64, .int .i64, .lst tRange, .lst tWrite, .bool, .str]] vals st (fun p q => vcq (p.2.1, q.1.1, q.1.2.1, q.1.2.2.1, q.1.2.2.2.1, q.1.2.2.2.2.1, q.1.2.2.2.2.2.1, q.1.2.2.2.2.2.2.1, q.1.2.2.2.2.2.2.2.1) (fun z => k .ret [.bp 0 0, .bool z.1] [.box [.int .i64 z.2.1, .int .i64 z.2.2.1, .int .i64 z.2.2.2.1, .int .i64 z.2.2.2.2.1, .lst tRange z.2.2.2.2.2.1, .lst tWrite z.2.2.2.2.2.2.1, .bool z.2.2.2.2.2.2.2.1, .str z.2.2.2.2.2.2.2.2]]))
      (none)⟩
  | 0 => some ⟨[1, 2, 6, 7, 8], [], fun vals st k => vaj [.bp 0 0, .bool, .lst tRange, .int .i64, .int .i64] [.box [.int .i64, .int .i64, .int .i64, .int .i64, .lst tRange, .lst tWrite, .bool, .str]] vals st (fun p q => vai vk1 Fuel (p.2.1, p.2.2.1, p.2.2.2.1, p.2.2.2.2.1, q.1.1, q.1.2.1, q.1.2.2.1, q.1.2.2.2.1, q.1.2.2.2.2.1, q.1.2.2.2.2.2.1, q.1.2.2.2.2.2.2.1, q.1.2.2.2.2.2.2.2.1) (Sum.elim (fun z => k .ret [.bp 0 0, .bool z.1, .lst tRange z.2.1, .int .i64 z.2.2.1, .int .i64 z.2.2.2.1] [.box [.int .i64 z.2.2.2.2.1, .int .i64 z.2.2.2.2.2.1, .int .i64 z.2.2.2.2.2.2.1, .int .i64 z.2.2.2.2.2.2.2.1, .lst tRange z.2.2.2.2.2.2.2.2.1, .lst tWrite z.2.2.2.2.2.2.2.2.2.1, .bool z.2.2.2.2.2.2.2.2.2.2.1, .str z.2.2.2.2.2.2.2.2.2.2.2]]) (fun z => k (.exit 0) [.bp 0 0, .bool z.1, .lst tRange z.2.1, .int .i64 z.2.2.1, .int .i64 z.2.2.2.1] [.box [.int .i64 z.2.2.2.2.1, .int .i64 z.2.2.2.2.2.1, .int .i64 z.2.2.2.2.2.2.1, .int .i64 z.2.2.2.2.2.2.2.1, .lst tRange z.2.2.2.2.2.2.2.2.1, .lst tWrite z.2.2.2.2.2.2.2.2.2.1, .bool z.2.2.2.2.2.2.2.2.2.2.1, .str z.2.2.2.2.2.2.2.2.2.2.2]])))
      (none)⟩
  | _ => none
def vo3 : q25T → List AV := (fun x => [.bp 0 0, .bool x.1])
def voe : q25T → St := (fun x => [.box [.int .i64 x.2.1, .int .i64 x.2.2.1, .int .i64 x.2.2.2.1, .int .i64 x.2.2.2.2.1, .lst tRange x.2.2.2.2.2.1, .lst tWrite x.2.2.2.2.2.2.1, .bool x.2.2.2.2.2.2.2.1, .str x.2.2.2.2.2.2.2.2]])
def vgs : q25T → Out × List AV × St := (fun z => (.ret, [.bp 0 0, .bool z.1], [.box [.int .i64 z.2.1, .int .i64 z.2.2.1, .int .i64 z.2.2.2.1, .int .i64 z.2.2.2.2.1, .lst tRange z.2.2.2.2.2.1, .lst tWrite z.2.2.2.2.2.2.1, .bool z.2.2.2.2.2.2.2.1, .str z.2.2.2.2.2.2.2.2]]))
theorem vz3 (x : q25T) : exec G34 ⟨0, 93, vb2⟩ (vad Try.f82 5000011) (va3 ⟨0, 93, vb2⟩ [1, 2] []) (va0 (vay 93) [1, 2] (vo3 x)) (voe x) = vb7 x (fun z => some ⟨(vgs z).1, (vgs z).2.1, (vgs z).2.2⟩) := by
  kernel_rfl
theorem vzx : ∀ sp, (vb2 5000011) = some sp → vep G34 ⟨0, 93, vb2⟩ sp (vad Try.f82 5000011) := by
  intro sp hsp vals st k r h
  cases hsp
  dsimp only at h
  rcases vae h with ⟨p, q, rfl, rfl, h⟩ | h
  · exact va5 vew vo3 voe vgs vz3 (p.2.1, q.1.1, q.1.2.1, q.1.2.2.1, q.1.2.2.2.1, q.1.2.2.2.2.1, q.1.2.2.2.2.2.1, q.1.2.2.2.2.2.2.1, q.1.2.2.2.2.2.2.2.1) _ k r (fun z => rfl) h
  cases h
def von : q25T → List AV := (fun x => [.bp 0 0, .bool x.1])
def vpf : q25T → St := (fun x => [.box [.int .i64 x.2.1, .int .i64 x.2.2.1, .int .i64 x.2.2.2.1, .int .i64 x.2.2.2.2.1, .lst tRange x.2.2.2.2.2.1, .lst tWrite x.2.2.2.2.2.2.1, .bool x.2.2.2.2.2.2.2.1, .str x.2.2.2.2.2.2.2.2]])
def vg8 : q25T → Out × List AV × St := (fun z => (.ret, [.bp 0 0, .bool z.1], [.box [.int .i64 z.2.1, .int .i64 z.2.2.1, .int .i64 z.2.2.2.1, .int .i64 z.2.2.2.2.1, .lst tRange z.2.2.2.2.2.1, .lst tWrite z.2.2.2.2.2.2.1, .bool z.2.2.2.2.2.2.2.1, .str z.2.2.2.2.2.2.2.2]]))
theorem v0f (x : q25T) : exec G34 ⟨0, 93, vb2⟩ (vad Try.f82 5000009) (va3 ⟨0, 93, vb2⟩ [1, 2] []) (va0 (vay 93) [1, 2] (von x)) (vpf x) = vcq x (fun z => some ⟨(vg8 z).1, (vg8 z).2.1, (vg8 z).2.2⟩) := by
  kernel_rfl
theorem vzh : ∀ sp, (vb2 5000009) = some sp → vep G34 ⟨0, 93, vb2⟩ sp (vad Try.f82 5000009) := by
  intro sp hsp vals st k r h
  cases hsp
  dsimp only at h
  rcases vae h with ⟨p, q, rfl, rfl, h⟩ | h
  · exact va5 vjk von vpf vg8 v0f (p.2.1, q.1.1, q.1.2.1, q.1.2.2.1, q.1.2.2.2.1, q.1.2.2.2.2.1, q.1.2.2.2.2.2.1, q.1.2.2.2.2.2.2.1, q.1.2.2.2.2.2.2.2.1) _ k r (fun z => rfl) h
  cases h
def wat : q15T → List AV := (fun x => [.bp 0 0, .bool x.1, .lst tRange x.2.1, .int .i64 x.2.2.1, .int .i64 x.2.2.2.1])
def v99 : q15T → St := (fun x => [.box [.int .i64 x.2.2.2.2.1, .int .i64 x.2.2.2.2.2.1, .int .i64 x.2.2.2.2.2.2.1, .int .i64 x.2.2.2.2.2.2.2.1, .lst tRange x.2.2.2.2.2.2.2.2.1, .lst tWrite x.2.2.2.2.2.2.2.2.2.1, .bool x.2.2.2.2.2.2.2.2.2.2.1, .str x.2.2.2.2.2.2.2.2.2.2.2]])
def v24 : (q15T ⊕ q15T) → Out × List AV × St := (Sum.elim (fun z => (.ret, [.bp 0 0, .bool z.1, .lst tRange z.2.1, .int .i64 z.2.2.1, .int .i64 z.2.2.2.1], [.box [.int .i64 z.2.2.2.2.1, .int .i64 z.2.2.2.2.2.1, .int .i64 z.2.2.2.2.2.2.1, .int .i64 z.2.2.2.2.2.2.2.1, .lst tRange z.2.2.2.2.2.2.2.2.1, .lst tWrite z.2.2.2.2.2.2.2.2.2.1, .bool z.2.2.2.2.2.2.2.2.2.2.1, .str z.2.2.2.2.2.2.2.2.2.2.2]])) (fun z => ((.exit 0), [.bp 0 0, .bool z.1, .lst tRange z.2.1, .int .i64 z.2.2.1, .int .i64 z.2.2.2.1], [.box [.int .i64 z.2.2.2.2.1, .int .i64 z.2.2.2.2.2.1, .int .i64 z.2.2.2.2.2.2.1, .int .i64 z.2.2.2.2.2.2.2.1, .lst tRange z.2.2.2.2.2.2.2.2.1, .lst tWrite z.2.2.2.2.2.2.2.2.2.1, .bool z.2.2.2.2.2.2.2.2.2.2.1, .str z.2.2.2.2.2.2.2.2.2.2.2]])))
theorem wpm (x : q15T) : exec G34 ⟨0, 93, vb2⟩ (vad Try.f82 0) (va3 ⟨0, 93, vb2⟩ [1, 2, 6, 7, 8] []) (va0 (vay 93) [1, 2, 6, 7, 8] (wat x)) (v99 x) = vk1 x (Sum.elim (fun y => some ⟨.norm, wat y, v99 y⟩) fun z => some ⟨(v24 z).1, (v24 z).2.1, (v24 z).2.2⟩) := by
  kernel_rfl
theorem wor : ∀ sp, (vb2 0) = some sp → vbc G34 ⟨0, 93, vb2⟩ sp (vad Try.f82 0) := by
  intro sp hsp vals st k r h
  cases hsp
  dsimp only at h
  rcases vae h with ⟨p, q, rfl, rfl, h⟩ | h
  · exact vaq we5 wat v99 v24 (fun z => by rcases z with z | z <;> (intro h; cases h)) wpm Fuel (p.2.1, p.2.2.1, p.2.2.2.1, p.2.2.2.2.1, q.1.1, q.1.2.1, q.1.2.2.1, q.1.2.2.2.1, q.1.2.2.2.2.1, q.1.2.2.2.2.2.1, q.1.2.2.2.2.2.2.1, q.1.2.2.2.2.2.2.2.1) _ k r (fun z => by rcases z with z | z <;> rfl) h
  cases h
theorem w2n (a0 : Int) (a1 : Int) (a2 : Int) (a3 : Int) (a4 : (List van)) (a5 : (List vam)) (a6 : Bool) (a7 : ByteArray) : var G34 vb2 Try.f82 [.agg [.int .i64 a0, .int .i64 a1, .int .i64 a2, .int .i64 a3, .lst tRange a4, .lst tWrite a5, .bool a6, .str a7]] [] = vnm (a0, (a1, (a2, (a3, (a4, (a5, (a6, a7))))))) (fun (y : Bool) => some ⟨.ret, [.bool y], []⟩) := by rw [wjb]; kernel_rfl
theorem wxf : vao G34 ⟨0, 93, vb2⟩ (Try.f82.body.getD .skip) :=
  vah (ids := [5000011, 5000009, 0]) (by kernel_rfl) (by kernel_rfl) ⟨vzx, ⟨vzh, ⟨wor, trivial⟩⟩⟩
theorem wxy : val Try.prog 82 wnf := by
  refine told G34_ok follows Try.func82 (c := Try.f82.body.getD .skip) (by kernel_rfl) ?_
  intro args s k r hk
  unfold wnf at hk
  rcases vag hk with ⟨p, q, rfl, rfl⟩ | hk
  · exact ⟨vb2, (wdt (p.1.1, (p.1.2.1, (p.1.2.2.1, (p.1.2.2.2.1, (p.1.2.2.2.2.1, (p.1.2.2.2.2.2.1, (p.1.2.2.2.2.2.2.1, p.1.2.2.2.2.2.2.2.1)))))))).map _, w2n p.1.1 p.1.2.1 p.1.2.2.1 p.1.2.2.2.1 p.1.2.2.2.2.1 p.1.2.2.2.2.2.1 p.1.2.2.2.2.2.2.1 p.1.2.2.2.2.2.2.2.1, wxf⟩
  cases hk
def G35 : Glob := G34.add 82 wnf
theorem G35_ok : GlobOk Try.prog G35 := G34_ok.add ⟨Try.f82, Try.func82, by kernel_rfl, by kernel_rfl⟩ wxy
def vta : Nat → Option LoopSpec
  | 2000006 => some ⟨[0, 2, 4, 6, 8, 10, 12, 15, 16, 18, 20, 22, 24], [], fun _ _ _ => none⟩
  | 1000001 => some ⟨[0], [], fun _ _ _ => none⟩
  | _ => none
theorem w2g (a0 : ByteArray) (a1 : Int) (a2 : Bool) : var G35 vta Try.f225 [.bp 0 0] [.box [.str a0, .int .i64 a1, .bool a2]] = vof a0 a1 a2 (fun (y : q53T) => some ⟨.ret, [.agg [.int .i64 y.1, .int .i64 y.2.1, .int .i64 y.2.2.1, .int .i64 y.2.2.2.1, .own 1, .own 2, .bool y.2.2.2.2.1, .str y.2.2.2.2.2.1]], [.box [.str y.2.2.2.2.2.2.1, .int .i64 y.2.2.2.2.2.2.2.1, .bool y.2.2.2.2.2.2.2.2.1], .arr tRange y.2.2.2.2.2.2.2.2.2.1, .arr tWrite y.2.2.2.2.2.2.2.2.2.2]⟩) := by rw [wd6]; kernel_rfl
theorem wwy : vao G35 ⟨1, 38, vta⟩ (Try.f225.body.getD .skip) :=
  vah (ids := []) (by kernel_rfl) (by kernel_rfl) trivial
theorem ww9 : val Try.prog 225 whd := by
  refine told G35_ok follows Try.func225 (c := Try.f225.body.getD .skip) (by kernel_rfl) ?_
  intro args s k r hk
  unfold whd at hk
  rcases vag hk with ⟨p, q, rfl, rfl⟩ | hk
  · exact ⟨vta, (v7p q.1.1 q.1.2.1 q.1.2.2.1).map _, w2g q.1.1 q.1.2.1 q.1.2.2.1, wwy⟩
  cases hk
def G36 : Glob := G35.add 225 whd
theorem G36_ok : GlobOk Try.prog G36 := G35_ok.add ⟨Try.f225, Try.func225, by kernel_rfl, by kernel_rfl⟩ ww9
def vt2 : Nat → Option LoopSpec
  | 1000000 => some ⟨[3, 4, 5, 6], [], fun _ _ _ => none⟩
  | _ => none
theorem w1e (a0 : Int) (a1 : Int) (a2 : (List vac)) (a3 : ByteArray) (a4 : Int) (a5 : Bool) : var G36 vt2 Try.f224 [.bp 0 0, .bp 1 0] [.box [.own 2, .nilS, .nilS, .int .i64 a0, .int .i64 a1], .box [.bp 3 0], .arr tVersion a2, .box [.str a3, .int .i64 a4, .bool a5]] = wfn a0 a1 a2 a3 a4 a5 (fun (y : q41T) => some ⟨.ret, [.tup []], [.box [.own 2, .own 4, .nilS, .int .i64 y.1, .int .i64 y.2.1], .box [.bp 3 0], .arr tVersion y.2.2.1, .box [.str y.2.2.2.1, .int .i64 y.2.2.2.2.1, .bool y.2.2.2.2.2.1], .dep tTxn y.2.2.2.2.2.2 0]⟩) := by rw [wta]; kernel_rfl
theorem w10 : vao G36 ⟨4, 9, vt2⟩ (Try.f224.body.getD .skip) :=
  vah (ids := []) (by kernel_rfl) (by kernel_rfl) trivial
theorem ws7 : val Try.prog 224 wf9 := by
  refine told G36_ok follows Try.func224 (c := Try.f224.body.getD .skip) (by kernel_rfl) ?_
  intro args s k r hk
  unfold wf9 at hk
  rcases vag hk with ⟨p, q, rfl, rfl⟩ | hk
  · exact ⟨vt2, (wwe q.1.2.2.2.1 q.1.2.2.2.2.1 q.2.2.1 q.2.2.2.1.1 q.2.2.2.1.2.1 q.2.2.2.1.2.2.1).map _, w1e q.1.2.2.2.1 q.1.2.2.2.2.1 q.2.2.1 q.2.2.2.1.1 q.2.2.2.1.2.1 q.2.2.2.1.2.2.1, w10⟩
  cases hk
def G37 : Glob := G36.add 224 wf9
theorem G37_ok : GlobOk Try.prog G37 := G36_ok.add ⟨Try.f224, Try.func224, by kernel_rfl, by kernel_rfl⟩ ws7
def vtl : Nat → Option LoopSpec
  | 1000000 => some ⟨[3, 4, 5, 6, 7], [], fun _ _ _ => none⟩
  | _ => none
theorem wwo (a0 : Int) (a1 : Int) (a2 : (List vac)) (a3 : (List dTxn)) (a4 : ByteArray) (a5 : Int) (a6 : Bool) : var G37 vtl Try.f224 [.bp 0 0, .bp 1 0] [.box [.own 2, .own 3, .nilS, .int .i64 a0, .int .i64 a1], .box [.bp 4 0], .arr tVersion a2, .dep tTxn a3 0, .box [.str a4, .int .i64 a5, .bool a6]] = v6x a0 a1 a2 a3 a4 a5 a6 (fun (y : q41T) => some ⟨.ret, [.tup []], [.box [.own 2, .own 5, .nilS, .int .i64 y.1, .int .i64 y.2.1], .box [.bp 4 0], .arr tVersion y.2.2.1, .gone, .box [.str y.2.2.2.1, .int .i64 y.2.2.2.2.1, .bool y.2.2.2.2.2.1], .dep tTxn y.2.2.2.2.2.2 0]⟩) := by rw [wej]; kernel_rfl
theorem wx9 : vao G37 ⟨5, 9, vtl⟩ (Try.f224.body.getD .skip) :=
  vah (ids := []) (by kernel_rfl) (by kernel_rfl) trivial
theorem wve : val Try.prog 224 wau := by
  refine wgl G37_ok follows Try.func224 (c := Try.f224.body.getD .skip) (by kernel_rfl) ws7 ?_
  intro args s k r hk
  unfold wau at hk
  rcases vag hk with ⟨p, q, rfl, rfl⟩ | hk
  · exact .inl ⟨vtl, (wt2 q.1.2.2.2.1 q.1.2.2.2.2.1 q.2.2.1 q.2.2.2.1 q.2.2.2.2.1.1 q.2.2.2.2.1.2.1 q.2.2.2.2.1.2.2.1).map _, wwo q.1.2.2.2.1 q.1.2.2.2.2.1 q.2.2.1 q.2.2.2.1 q.2.2.2.2.1.1 q.2.2.2.2.1.2.1 q.2.2.2.2.1.2.2.1, wx9⟩
  exact .inr hk
def G38 : Glob := G37.add 224 wau
theorem G38_ok : GlobOk Try.prog G38 := G37_ok.add ⟨Try.f224, Try.func224, by kernel_rfl, by kernel_rfl⟩ wve
def vda : Nat → Option LoopSpec
  | 6000001 => some ⟨[0, 1, 4, 5], [none, none, none, none, none, none, none, none, some tTxn], fun vals st k => vaj [.bp 0 0, .fn 224 [.bp 1 0, .bp 2 0], .int .i64, .int .i64] [.box [.str, .int .i64, .bool], .box [.own 3, .own 4, .nilS, .int .i64, .int .i64], .box [.bp 0 0], .arr tVersion, .dep tTxn 0] vals st (fun p q => vdc (p.2.2.1, p.2.2.2.1, q.1.1, q.1.2.1, q.1.2.2.1, q.2.1.2.2.2.1, q.2.1.2.2.2.2.1, q.2.2.2.1, q.2.2.2.2.1) (fun z => k .norm [.bp 0 0, .fn 224 [.bp 1 0, .bp 2 0], .int .i64 z.1, .int .i64 z.2.1] [.box [.str z.2.2.1, .int .i64 z.2.2.2.1, .bool z.2.2.2.2.1], .box [.own 3, .own 4, .nilS, .int .i64 z.2.2.2.2.2.1, .int .i64 z.2.2.2.2.2.2.1], .box [.bp 0 0], .arr tVersion z.2.2.2.2.2.2.2.1, .dep tTxn z.2.2.2.2.2.2.2.2 0]))
      (none)⟩
  | 0 => some ⟨[0, 1, 4, 5], [none, none, none, none, none, none, none, none, some tTxn], fun vals st k => vaj [.bp 0 0, .fn 224 [.bp 1 0, .bp 2 0], .int .i64, .int .i64] [.box [.str, .int .i64, .bool], .box [.own 3, .own 4, .nilS, .int .i64, .int .i64], .box [.bp 0 0], .arr tVersion, .dep tTxn 0] vals st (fun p q => vai vik Fuel (p.2.2.1, p.2.2.2.1, q.1.1, q.1.2.1, q.1.2.2.1, q.2.1.2.2.2.1, q.2.1.2.2.2.2.1, q.2.2.2.1, q.2.2.2.2.1) (fun z => k (.exit 0) [.bp 0 0, .fn 224 [.bp 1 0, .bp 2 0], .int .i64 z.1, .int .i64 z.2.1] [.box [.str z.2.2.1, .int .i64 z.2.2.2.1, .bool z.2.2.2.2.1], .box [.own 3, .own 4, .nilS, .int .i64 z.2.2.2.2.2.1, .int .i64 z.2.2.2.2.2.2.1], .box [.bp 0 0], .arr tVersion z.2.2.2.2.2.2.2.1, .dep tTxn z.2.2.2.2.2.2.2.2 0]))
      (none)⟩
  | 3000000 => some ⟨[], [none, none, none, none, some tTxn], fun _ _ _ => none⟩
  | _ => none
def vqu : q46T → List AV := (fun x => [.bp 0 0, .fn 224 [.bp 1 0, .bp 2 0], .int .i64 x.1, .int .i64 x.2.1])
def vqz : q46T → St := (fun x => [.box [.str x.2.2.1, .int .i64 x.2.2.2.1, .bool x.2.2.2.2.1], .box [.own 3, .own 4, .nilS, .int .i64 x.2.2.2.2.2.1, .int .i64 x.2.2.2.2.2.2.1], .box [.bp 0 0], .arr tVersion x.2.2.2.2.2.2.2.1, .dep tTxn x.2.2.2.2.2.2.2.2 0])
def vgy : q46T → Out × List AV × St := (fun z => (.norm, [.bp 0 0, .fn 224 [.bp 1 0, .bp 2 0], .int .i64 z.1, .int .i64 z.2.1], [.box [.str z.2.2.1, .int .i64 z.2.2.2.1, .bool z.2.2.2.2.1], .box [.own 3, .own 4, .nilS, .int .i64 z.2.2.2.2.2.1, .int .i64 z.2.2.2.2.2.2.1], .box [.bp 0 0], .arr tVersion z.2.2.2.2.2.2.2.1, .dep tTxn z.2.2.2.2.2.2.2.2 0]))
theorem vzu (x : q46T) : exec G38 ⟨4, 22, vda⟩ (vad Try.f220 6000001) (va3 ⟨4, 22, vda⟩ [0, 1, 4, 5] [none, none, none, none, none, none, none, none, some tTxn]) (va0 (vay 22) [0, 1, 4, 5] (vqu x)) (vqz x) = vdc x (fun z => some ⟨(vgy z).1, (vgy z).2.1, (vgy z).2.2⟩) := by
  kernel_rfl
theorem v0d : ∀ sp, (vda 6000001) = some sp → vep G38 ⟨4, 22, vda⟩ sp (vad Try.f220 6000001) := by
  intro sp hsp vals st k r h
  cases hsp
  dsimp only at h
  rcases vae h with ⟨p, q, rfl, rfl, h⟩ | h
  · exact va5 vpb vqu vqz vgy vzu (p.2.2.1, p.2.2.2.1, q.1.1, q.1.2.1, q.1.2.2.1, q.2.1.2.2.2.1, q.2.1.2.2.2.2.1, q.2.2.2.1, q.2.2.2.2.1) _ k r (fun z => rfl) h
  cases h
def waq : q46T → List AV := (fun x => [.bp 0 0, .fn 224 [.bp 1 0, .bp 2 0], .int .i64 x.1, .int .i64 x.2.1])
def v9s : q46T → St := (fun x => [.box [.str x.2.2.1, .int .i64 x.2.2.2.1, .bool x.2.2.2.2.1], .box [.own 3, .own 4, .nilS, .int .i64 x.2.2.2.2.2.1, .int .i64 x.2.2.2.2.2.2.1], .box [.bp 0 0], .arr tVersion x.2.2.2.2.2.2.2.1, .dep tTxn x.2.2.2.2.2.2.2.2 0])
def v4l : q46T → Out × List AV × St := (fun z => ((.exit 0), [.bp 0 0, .fn 224 [.bp 1 0, .bp 2 0], .int .i64 z.1, .int .i64 z.2.1], [.box [.str z.2.2.1, .int .i64 z.2.2.2.1, .bool z.2.2.2.2.1], .box [.own 3, .own 4, .nilS, .int .i64 z.2.2.2.2.2.1, .int .i64 z.2.2.2.2.2.2.1], .box [.bp 0 0], .arr tVersion z.2.2.2.2.2.2.2.1, .dep tTxn z.2.2.2.2.2.2.2.2 0]))
theorem wrf (x : q46T) : exec G38 ⟨4, 22, vda⟩ (vad Try.f220 0) (va3 ⟨4, 22, vda⟩ [0, 1, 4, 5] [none, none, none, none, none, none, none, none, some tTxn]) (va0 (vay 22) [0, 1, 4, 5] (waq x)) (v9s x) = vik x (Sum.elim (fun y => some ⟨.norm, waq y, v9s y⟩) fun z => some ⟨(v4l z).1, (v4l z).2.1, (v4l z).2.2⟩) := by
  kernel_rfl
theorem wrw : ∀ sp, (vda 0) = some sp → vbc G38 ⟨4, 22, vda⟩ sp (vad Try.f220 0) := by
  intro sp hsp vals st k r h
  cases hsp
  dsimp only at h
  rcases vae h with ⟨p, q, rfl, rfl, h⟩ | h
  · exact vaq wcf waq v9s v4l (fun z => by (intro h; cases h)) wrf Fuel (p.2.2.1, p.2.2.2.1, q.1.1, q.1.2.1, q.1.2.2.1, q.2.1.2.2.2.1, q.2.1.2.2.2.2.1, q.2.2.2.1, q.2.2.2.2.1) _ k r (fun z => rfl) h
  cases h
theorem wv9 (a0 : ByteArray) (a1 : Int) (a2 : Bool) (a3 : Int) (a4 : Int) (a5 : (List vac)) : var G38 vda Try.f220 [.bp 0 0, .fn 224 [.bp 1 0, .bp 2 0]] [.box [.str a0, .int .i64 a1, .bool a2], .box [.own 3, .nilS, .nilS, .int .i64 a3, .int .i64 a4], .box [.bp 0 0], .arr tVersion a5] = vxh a0 a1 a2 a3 a4 a5 (fun (y : q31T) => some ⟨.ret, [.tup []], [.box [.str y.1, .int .i64 y.2.1, .bool y.2.2.1], .box [.own 3, .own 4, .nilS, .int .i64 y.2.2.2.1, .int .i64 y.2.2.2.2.1], .box [.bp 0 0], .arr tVersion y.2.2.2.2.2.1, .dep tTxn y.2.2.2.2.2.2 0]⟩) := by rw [wjo]; kernel_rfl
theorem wxb : vao G38 ⟨4, 22, vda⟩ (Try.f220.body.getD .skip) :=
  vah (ids := [6000001, 0]) (by kernel_rfl) (by kernel_rfl) ⟨v0d, ⟨wrw, trivial⟩⟩
theorem vii : val Try.prog 220 vdj := by
  refine wgl G38_ok follows Try.func220 (c := Try.f220.body.getD .skip) (by kernel_rfl) viv ?_
  intro args s k r hk
  unfold vdj at hk
  rcases vag hk with ⟨p, q, rfl, rfl⟩ | hk
  · exact .inl ⟨vda, (wt4 q.1.1 q.1.2.1 q.1.2.2.1 q.2.1.2.2.2.1 q.2.1.2.2.2.2.1 q.2.2.2.1).map _, wv9 q.1.1 q.1.2.1 q.1.2.2.1 q.2.1.2.2.2.1 q.2.1.2.2.2.2.1 q.2.2.2.1, wxb⟩
  exact .inr hk
def G39 : Glob := G38.add 220 vdj
theorem G39_ok : GlobOk Try.prog G39 := G38_ok.add ⟨Try.f220, Try.func220, by kernel_rfl, by kernel_rfl⟩ vii
def vti : Nat → Option LoopSpec
  | 1000000 => some ⟨[4, 5, 6, 7], [], fun _ _ _ => none⟩
  | _ => none
theorem w0r (a0 : Int) (a1 : Int) (a2 : (List vac)) (a3 : (List dTxn)) (a4 : ByteArray) (a5 : Int) (a6 : Bool) : var G39 vti Try.f226 [.bp 0 0, .bp 1 0] [.box [.own 2, .own 3, .nilS, .int .i64 a0, .int .i64 a1], .box [.bp 4 0], .arr tVersion a2, .dep tTxn a3 0, .box [.str a4, .int .i64 a5, .bool a6]] = wcb a0 a1 a2 a3 a4 a5 a6 (fun (y : q40T) => some ⟨.ret, [.tup []], [.box [.own 2, .own 3, .own 5, .int .i64 y.1, .int .i64 y.2.1], .box [.bp 4 0], .arr tVersion y.2.2.1, .dep tTxn y.2.2.2.1 0, .box [.str y.2.2.2.2.1, .int .i64 y.2.2.2.2.2.1, .bool y.2.2.2.2.2.2.1], .dep tTxn y.2.2.2.2.2.2.2 0]⟩) := by rw [wtu]; kernel_rfl
theorem w1m : vao G39 ⟨5, 9, vti⟩ (Try.f226.body.getD .skip) :=
  vah (ids := []) (by kernel_rfl) (by kernel_rfl) trivial
theorem wuk : val Try.prog 226 wdy := by
  refine told G39_ok follows Try.func226 (c := Try.f226.body.getD .skip) (by kernel_rfl) ?_
  intro args s k r hk
  unfold wdy at hk
  rcases vag hk with ⟨p, q, rfl, rfl⟩ | hk
  · exact ⟨vti, (wzq q.1.2.2.2.1 q.1.2.2.2.2.1 q.2.2.1 q.2.2.2.1 q.2.2.2.2.1.1 q.2.2.2.2.1.2.1 q.2.2.2.2.1.2.2.1).map _, w0r q.1.2.2.2.1 q.1.2.2.2.2.1 q.2.2.1 q.2.2.2.1 q.2.2.2.2.1.1 q.2.2.2.2.1.2.1 q.2.2.2.2.1.2.2.1, w1m⟩
  cases hk
def G40 : Glob := G39.add 226 wdy
theorem G40_ok : GlobOk Try.prog G40 := G39_ok.add ⟨Try.f226, Try.func226, by kernel_rfl, by kernel_rfl⟩ wuk
def vud : Nat → Option LoopSpec
  | 1000000 => some ⟨[4, 5, 6, 7, 8], [], fun _ _ _ => none⟩
  | _ => none
theorem w2w (a0 : Int) (a1 : Int) (a2 : (List vac)) (a3 : (List dTxn)) (a4 : (List dTxn)) (a5 : ByteArray) (a6 : Int) (a7 : Bool) : var G40 vud Try.f226 [.bp 0 0, .bp 1 0] [.box [.own 2, .own 3, .own 4, .int .i64 a0, .int .i64 a1], .box [.bp 5 0], .arr tVersion a2, .dep tTxn a3 0, .dep tTxn a4 0, .box [.str a5, .int .i64 a6, .bool a7]] = v6p a0 a1 a2 a3 a4 a5 a6 a7 (fun (y : q40T) => some ⟨.ret, [.tup []], [.box [.own 2, .own 3, .own 6, .int .i64 y.1, .int .i64 y.2.1], .box [.bp 5 0], .arr tVersion y.2.2.1, .dep tTxn y.2.2.2.1 0, .gone, .box [.str y.2.2.2.2.1, .int .i64 y.2.2.2.2.2.1, .bool y.2.2.2.2.2.2.1], .dep tTxn y.2.2.2.2.2.2.2 0]⟩) := by rw [wcx]; kernel_rfl
theorem wyi : vao G40 ⟨6, 9, vud⟩ (Try.f226.body.getD .skip) :=
  vah (ids := []) (by kernel_rfl) (by kernel_rfl) trivial
theorem wvg : val Try.prog 226 wbg := by
  refine wgl G40_ok follows Try.func226 (c := Try.f226.body.getD .skip) (by kernel_rfl) wuk ?_
  intro args s k r hk
  unfold wbg at hk
  rcases vag hk with ⟨p, q, rfl, rfl⟩ | hk
  · exact .inl ⟨vud, (wtd q.1.2.2.2.1 q.1.2.2.2.2.1 q.2.2.1 q.2.2.2.1 q.2.2.2.2.1 q.2.2.2.2.2.1.1 q.2.2.2.2.2.1.2.1 q.2.2.2.2.2.1.2.2.1).map _, w2w q.1.2.2.2.1 q.1.2.2.2.2.1 q.2.2.1 q.2.2.2.1 q.2.2.2.2.1 q.2.2.2.2.2.1.1 q.2.2.2.2.2.1.2.1 q.2.2.2.2.2.1.2.2.1, wyi⟩
  exact .inr hk
def G41 : Glob := G40.add 226 wbg
theorem G41_ok : GlobOk Try.prog G41 := G40_ok.add ⟨Try.f226, Try.func226, by kernel_rfl, by kernel_rfl⟩ wvg
def vc6 : Nat → Option LoopSpec
  | 6000001 => some ⟨[0, 1, 4, 5], [none, none, none, none, none, none, none, none, none, some tTxn], fun vals st k => vaj [.bp 0 0, .fn 226 [.bp 1 0, .bp 2 0], .int .i64, .int .i64] [.box [.str, .int .i64, .bool], .box [.own 3, .own 4, .own 5, .int .i64, .int .i64], .box [.bp 0 0], .arr tVersion, .dep tTxn 0, .dep tTxn 0] vals st (fun p q => vdk (p.2.2.1, p.2.2.2.1, q.1.1, q.1.2.1, q.1.2.2.1, q.2.1.2.2.2.1, q.2.1.2.2.2.2.1, q.2.2.2.1, q.2.2.2.2.1, q.2.2.2.2.2.1) (fun z => k .norm [.bp 0 0, .fn 226 [.bp 1 0, .bp 2 0], .int .i64 z.1, .int .i64 z.2.1] [.box [.str z.2.2.1, .int .i64 z.2.2.2.1, .bool z.2.2.2.2.1], .box [.own 3, .own 4, .own 5, .int .i64 z.2.2.2.2.2.1, .int .i64 z.2.2.2.2.2.2.1], .box [.bp 0 0], .arr tVersion z.2.2.2.2.2.2.2.1, .dep tTxn z.2.2.2.2.2.2.2.2.1 0, .dep tTxn z.2.2.2.2.2.2.2.2.2 0]))
      (none)⟩
  | 0 => some ⟨[0, 1, 4, 5], [none, none, none, none, none, none, none, none, none, some tTxn], fun vals st k => vaj [.bp 0 0, .fn 226 [.bp 1 0, .bp 2 0], .int .i64, .int .i64] [.box [.str, .int .i64, .bool], .box [.own 3, .own 4, .own 5, .int .i64, .int .i64], .box [.bp 0 0], .arr tVersion, .dep tTxn 0, .dep tTxn 0] vals st (fun p q => vai vio Fuel (p.2.2.1, p.2.2.2.1, q.1.1, q.1.2.1, q.1.2.2.1, q.2.1.2.2.2.1, q.2.1.2.2.2.2.1, q.2.2.2.1, q.2.2.2.2.1, q.2.2.2.2.2.1) (fun z => k (.exit 0) [.bp 0 0, .fn 226 [.bp 1 0, .bp 2 0], .int .i64 z.1, .int .i64 z.2.1] [.box [.str z.2.2.1, .int .i64 z.2.2.2.1, .bool z.2.2.2.2.1], .box [.own 3, .own 4, .own 5, .int .i64 z.2.2.2.2.2.1, .int .i64 z.2.2.2.2.2.2.1], .box [.bp 0 0], .arr tVersion z.2.2.2.2.2.2.2.1, .dep tTxn z.2.2.2.2.2.2.2.2.1 0, .dep tTxn z.2.2.2.2.2.2.2.2.2 0]))
      (none)⟩
  | 3000000 => some ⟨[], [none, none, none, none, none, some tTxn], fun _ _ _ => none⟩
  | _ => none
def vpe : q45T → List AV := (fun x => [.bp 0 0, .fn 226 [.bp 1 0, .bp 2 0], .int .i64 x.1, .int .i64 x.2.1])
def vqb : q45T → St := (fun x => [.box [.str x.2.2.1, .int .i64 x.2.2.2.1, .bool x.2.2.2.2.1], .box [.own 3, .own 4, .own 5, .int .i64 x.2.2.2.2.2.1, .int .i64 x.2.2.2.2.2.2.1], .box [.bp 0 0], .arr tVersion x.2.2.2.2.2.2.2.1, .dep tTxn x.2.2.2.2.2.2.2.2.1 0, .dep tTxn x.2.2.2.2.2.2.2.2.2 0])
def vhl : q45T → Out × List AV × St := (fun z => (.norm, [.bp 0 0, .fn 226 [.bp 1 0, .bp 2 0], .int .i64 z.1, .int .i64 z.2.1], [.box [.str z.2.2.1, .int .i64 z.2.2.2.1, .bool z.2.2.2.2.1], .box [.own 3, .own 4, .own 5, .int .i64 z.2.2.2.2.2.1, .int .i64 z.2.2.2.2.2.2.1], .box [.bp 0 0], .arr tVersion z.2.2.2.2.2.2.2.1, .dep tTxn z.2.2.2.2.2.2.2.2.1 0, .dep tTxn z.2.2.2.2.2.2.2.2.2 0]))
theorem vyt (x : q45T) : exec G41 ⟨5, 22, vc6⟩ (vad Try.f220 6000001) (va3 ⟨5, 22, vc6⟩ [0, 1, 4, 5] [none, none, none, none, none, none, none, none, none, some tTxn]) (va0 (vay 22) [0, 1, 4, 5] (vpe x)) (vqb x) = vdk x (fun z => some ⟨(vhl z).1, (vhl z).2.1, (vhl z).2.2⟩) := by
  kernel_rfl
theorem vyh : ∀ sp, (vc6 6000001) = some sp → vep G41 ⟨5, 22, vc6⟩ sp (vad Try.f220 6000001) := by
  intro sp hsp vals st k r h
  cases hsp
  dsimp only at h
  rcases vae h with ⟨p, q, rfl, rfl, h⟩ | h
  · exact va5 vo5 vpe vqb vhl vyt (p.2.2.1, p.2.2.2.1, q.1.1, q.1.2.1, q.1.2.2.1, q.2.1.2.2.2.1, q.2.1.2.2.2.2.1, q.2.2.2.1, q.2.2.2.2.1, q.2.2.2.2.2.1) _ k r (fun z => rfl) h
  cases h
def wa2 : q45T → List AV := (fun x => [.bp 0 0, .fn 226 [.bp 1 0, .bp 2 0], .int .i64 x.1, .int .i64 x.2.1])
def wa5 : q45T → St := (fun x => [.box [.str x.2.2.1, .int .i64 x.2.2.2.1, .bool x.2.2.2.2.1], .box [.own 3, .own 4, .own 5, .int .i64 x.2.2.2.2.2.1, .int .i64 x.2.2.2.2.2.2.1], .box [.bp 0 0], .arr tVersion x.2.2.2.2.2.2.2.1, .dep tTxn x.2.2.2.2.2.2.2.2.1 0, .dep tTxn x.2.2.2.2.2.2.2.2.2 0])
def v29 : q45T → Out × List AV × St := (fun z => ((.exit 0), [.bp 0 0, .fn 226 [.bp 1 0, .bp 2 0], .int .i64 z.1, .int .i64 z.2.1], [.box [.str z.2.2.1, .int .i64 z.2.2.2.1, .bool z.2.2.2.2.1], .box [.own 3, .own 4, .own 5, .int .i64 z.2.2.2.2.2.1, .int .i64 z.2.2.2.2.2.2.1], .box [.bp 0 0], .arr tVersion z.2.2.2.2.2.2.2.1, .dep tTxn z.2.2.2.2.2.2.2.2.1 0, .dep tTxn z.2.2.2.2.2.2.2.2.2 0]))
theorem wrs (x : q45T) : exec G41 ⟨5, 22, vc6⟩ (vad Try.f220 0) (va3 ⟨5, 22, vc6⟩ [0, 1, 4, 5] [none, none, none, none, none, none, none, none, none, some tTxn]) (va0 (vay 22) [0, 1, 4, 5] (wa2 x)) (wa5 x) = vio x (Sum.elim (fun y => some ⟨.norm, wa2 y, wa5 y⟩) fun z => some ⟨(v29 z).1, (v29 z).2.1, (v29 z).2.2⟩) := by
  kernel_rfl
theorem wrh : ∀ sp, (vc6 0) = some sp → vbc G41 ⟨5, 22, vc6⟩ sp (vad Try.f220 0) := by
  intro sp hsp vals st k r h
  cases hsp
  dsimp only at h
  rcases vae h with ⟨p, q, rfl, rfl, h⟩ | h
  · exact vaq wca wa2 wa5 v29 (fun z => by (intro h; cases h)) wrs Fuel (p.2.2.1, p.2.2.2.1, q.1.1, q.1.2.1, q.1.2.2.1, q.2.1.2.2.2.1, q.2.1.2.2.2.2.1, q.2.2.2.1, q.2.2.2.2.1, q.2.2.2.2.2.1) _ k r (fun z => rfl) h
  cases h
theorem wxl (a0 : ByteArray) (a1 : Int) (a2 : Bool) (a3 : Int) (a4 : Int) (a5 : (List vac)) (a6 : (List dTxn)) : var G41 vc6 Try.f220 [.bp 0 0, .fn 226 [.bp 1 0, .bp 2 0]] [.box [.str a0, .int .i64 a1, .bool a2], .box [.own 3, .own 4, .nilS, .int .i64 a3, .int .i64 a4], .box [.bp 0 0], .arr tVersion a5, .dep tTxn a6 0] = vv7 a0 a1 a2 a3 a4 a5 a6 (fun (y : q30T) => some ⟨.ret, [.tup []], [.box [.str y.1, .int .i64 y.2.1, .bool y.2.2.1], .box [.own 3, .own 4, .own 5, .int .i64 y.2.2.2.1, .int .i64 y.2.2.2.2.1], .box [.bp 0 0], .arr tVersion y.2.2.2.2.2.1, .dep tTxn y.2.2.2.2.2.2.1 0, .dep tTxn y.2.2.2.2.2.2.2 0]⟩) := by rw [wkn]; kernel_rfl
theorem w1p : vao G41 ⟨5, 22, vc6⟩ (Try.f220.body.getD .skip) :=
  vah (ids := [6000001, 0]) (by kernel_rfl) (by kernel_rfl) ⟨vyh, ⟨wrh, trivial⟩⟩
theorem vq1 : val Try.prog 220 ve6 := by
  refine wgl G41_ok follows Try.func220 (c := Try.f220.body.getD .skip) (by kernel_rfl) vii ?_
  intro args s k r hk
  unfold ve6 at hk
  rcases vag hk with ⟨p, q, rfl, rfl⟩ | hk
  · exact .inl ⟨vc6, (wtm q.1.1 q.1.2.1 q.1.2.2.1 q.2.1.2.2.2.1 q.2.1.2.2.2.2.1 q.2.2.2.1 q.2.2.2.2.1).map _, wxl q.1.1 q.1.2.1 q.1.2.2.1 q.2.1.2.2.2.1 q.2.1.2.2.2.2.1 q.2.2.2.1 q.2.2.2.2.1, w1p⟩
  exact .inr hk
def G42 : Glob := G41.add 220 ve6
theorem G42_ok : GlobOk Try.prog G42 := G41_ok.add ⟨Try.f220, Try.func220, by kernel_rfl, by kernel_rfl⟩ vq1
def vsw : Nat → Option LoopSpec
  | _ => none
theorem wx6 (a0 : ByteArray) : var G42 vsw Try.f255 [.str a0] [] = v1g a0 (fun (y : Bool) => some ⟨.ret, [.bool y], []⟩) := by rw [wl9]; kernel_rfl
theorem wyv : vao G42 ⟨0, 6, vsw⟩ (Try.f255.body.getD .skip) :=
  vah (ids := []) (by kernel_rfl) (by kernel_rfl) trivial
theorem wys : val Try.prog 255 whz := by
  refine told G42_ok follows Try.func255 (c := Try.f255.body.getD .skip) (by kernel_rfl) ?_
  intro args s k r hk
  unfold whz at hk
  rcases vag hk with ⟨p, q, rfl, rfl⟩ | hk
  · exact ⟨vsw, (wk7 p.1).map _, wx6 p.1, wyv⟩
  cases hk
def G43 : Glob := G42.add 255 whz
theorem G43_ok : GlobOk Try.prog G43 := G42_ok.add ⟨Try.f255, Try.func255, by kernel_rfl, by kernel_rfl⟩ wys
def vs4 : Nat → Option LoopSpec
  | _ => none
theorem wxu (a0 : ByteArray) (a1 : ByteArray) : var G43 vs4 Try.f206 [.str a0, .str a1] [] = v1u a0 a1 (fun (y : Int) => some ⟨.ret, [.int .i64 y], []⟩) := by rw [whx]; kernel_rfl
theorem wwg : vao G43 ⟨0, 20, vs4⟩ (Try.f206.body.getD .skip) :=
  vah (ids := []) (by kernel_rfl) (by kernel_rfl) trivial
theorem w1h : val Try.prog 206 whn := by
  refine told G43_ok follows Try.func206 (c := Try.f206.body.getD .skip) (by kernel_rfl) ?_
  intro args s k r hk
  unfold whn at hk
  rcases vag hk with ⟨p, q, rfl, rfl⟩ | hk
  · exact ⟨vs4, (wtb p.1 p.2.1).map _, wxu p.1 p.2.1, wwg⟩
  cases hk
def G44 : Glob := G43.add 206 whn
theorem G44_ok : GlobOk Try.prog G44 := G43_ok.add ⟨Try.f206, Try.func206, by kernel_rfl, by kernel_rfl⟩ w1h
def vtx : Nat → Option LoopSpec
  | _ => none
theorem w0c (a0 : Int) : var G44 vtx Try.f256 [.int .i64 a0] [] = v0s a0 (fun (y : Bool) => some ⟨.ret, [.bool y], []⟩) := by rw [wl4]; kernel_rfl
theorem wy6 : vao G44 ⟨0, 6, vtx⟩ (Try.f256.body.getD .skip) :=
  vah (ids := []) (by kernel_rfl) (by kernel_rfl) trivial
theorem wzk : val Try.prog 256 wju := by
  refine told G44_ok follows Try.func256 (c := Try.f256.body.getD .skip) (by kernel_rfl) ?_
  intro args s k r hk
  unfold wju at hk
  rcases vag hk with ⟨p, q, rfl, rfl⟩ | hk
  · exact ⟨vtx, (wk0 p.1).map _, w0c p.1, wy6⟩
  cases hk
def G45 : Glob := G44.add 256 wju
theorem G45_ok : GlobOk Try.prog G45 := G44_ok.add ⟨Try.f256, Try.func256, by kernel_rfl, by kernel_rfl⟩ wzk
def vtt : Nat → Option LoopSpec
  | _ => none
theorem wzc (a0 : Int) (a1 : Int) : var G45 vtt Try.f207 [.int .i64 a0, .int .i64 a1] [] = v1j a0 a1 (fun (y : Int) => some ⟨.ret, [.int .i64 y], []⟩) := by rw [wkd]; kernel_rfl
theorem wyk : vao G45 ⟨0, 20, vtt⟩ (Try.f207.body.getD .skip) :=
  vah (ids := []) (by kernel_rfl) (by kernel_rfl) trivial
theorem wzv : val Try.prog 207 wnn := by
  refine told G45_ok follows Try.func207 (c := Try.f207.body.getD .skip) (by kernel_rfl) ?_
  intro args s k r hk
  unfold wnn at hk
  rcases vag hk with ⟨p, q, rfl, rfl⟩ | hk
  · exact ⟨vtt, (wuc p.1 p.2.1).map _, wzc p.1 p.2.1, wyk⟩
  cases hk
def G46 : Glob := G45.add 207 wnn
theorem G46_ok : GlobOk Try.prog G46 := G45_ok.add ⟨Try.f207, Try.func207, by kernel_rfl, by kernel_rfl⟩ wzv
def vtz : Nat → Option LoopSpec
  | _ => none
theorem w0x (a0 : ByteArray) (a1 : ByteArray) (a2 : Bool) (a3 : Int) (a4 : ByteArray) (a5 : ByteArray) (a6 : Bool) (a7 : Int) : var G46 vtz Try.f138 [.agg [.str a0, .str a1, .bool a2, .int .i64 a3], .agg [.str a4, .str a5, .bool a6, .int .i64 a7]] [] = vru (a0, (a1, (a2, a3))) (a4, (a5, (a6, a7))) (fun (y : Int) => some ⟨.ret, [.int .i64 y], []⟩) := by rw [wlz]; kernel_rfl
theorem wwp : vao G46 ⟨0, 19, vtz⟩ (Try.f138.body.getD .skip) :=
  vah (ids := []) (by kernel_rfl) (by kernel_rfl) trivial
theorem w2c : val Try.prog 138 wjc := by
  refine told G46_ok follows Try.func138 (c := Try.f138.body.getD .skip) (by kernel_rfl) ?_
  intro args s k r hk
  unfold wjc at hk
  rcases vag hk with ⟨p, q, rfl, rfl⟩ | hk
  · exact ⟨vtz, (wkf (p.1.1, (p.1.2.1, (p.1.2.2.1, p.1.2.2.2.1))) (p.2.1.1, (p.2.1.2.1, (p.2.1.2.2.1, p.2.1.2.2.2.1)))).map _, w0x p.1.1 p.1.2.1 p.1.2.2.1 p.1.2.2.2.1 p.2.1.1 p.2.1.2.1 p.2.1.2.2.1 p.2.1.2.2.2.1, wwp⟩
  cases hk
def G47 : Glob := G46.add 138 wjc
theorem G47_ok : GlobOk Try.prog G47 := G46_ok.add ⟨Try.f138, Try.func138, by kernel_rfl, by kernel_rfl⟩ w2c
def vft : Nat → Option LoopSpec
  | 0 => some ⟨[0, 2, 5, 6, 7], [], fun vals st k => vaj [.lst tVersion, .bool, .lst tVersion, .int .i64, .int .i64] [] vals st (fun p q => vai vl1 Fuel (p.1, p.2.1, p.2.2.1, p.2.2.2.1, p.2.2.2.2.1) (Sum.elim (fun z => k .ret [.lst tVersion z.1, .bool z.2.1, .lst tVersion z.2.2.1, .int .i64 z.2.2.2.1, .int .i64 z.2.2.2.2] []) (fun z => k (.exit 0) [.lst tVersion z.1, .bool z.2.1, .lst tVersion z.2.2.1, .int .i64 z.2.2.2.1, .int .i64 z.2.2.2.2] [])))
      (none)⟩
  | 2000004 => some ⟨[0, 2, 5, 6, 8, 10, 12, 14, 16, 18, 20, 22, 24, 26, 28, 30, 32, 34, 36, 38, 40, 42, 45, 46, 48, 50, 52, 54, 56, 58, 60, 62, 64, 66, 68, 71, 72, 74, 76], [], fun _ _ _ => none⟩
  | _ => none
def v9e : q9T → List AV := (fun x => [.lst tVersion x.1, .bool x.2.1, .lst tVersion x.2.2.1, .int .i64 x.2.2.2.1, .int .i64 x.2.2.2.2])
def v8b : q9T → St := (fun x => [])
def v5h : (q9T ⊕ q9T) → Out × List AV × St := (Sum.elim (fun z => (.ret, [.lst tVersion z.1, .bool z.2.1, .lst tVersion z.2.2.1, .int .i64 z.2.2.2.1, .int .i64 z.2.2.2.2], [])) (fun z => ((.exit 0), [.lst tVersion z.1, .bool z.2.1, .lst tVersion z.2.2.1, .int .i64 z.2.2.2.1, .int .i64 z.2.2.2.2], [])))
theorem wou (x : q9T) : exec G47 ⟨0, 55, vft⟩ (vad Try.f63 0) (va3 ⟨0, 55, vft⟩ [0, 2, 5, 6, 7] []) (va0 (vay 55) [0, 2, 5, 6, 7] (v9e x)) (v8b x) = vl1 x (Sum.elim (fun y => some ⟨.norm, v9e y, v8b y⟩) fun z => some ⟨(v5h z).1, (v5h z).2.1, (v5h z).2.2⟩) := by
  kernel_rfl
theorem wsk : ∀ sp, (vft 0) = some sp → vbc G47 ⟨0, 55, vft⟩ sp (vad Try.f63 0) := by
  intro sp hsp vals st k r h
  cases hsp
  dsimp only at h
  rcases vae h with ⟨p, q, rfl, rfl, h⟩ | h
  · exact vaq wbz v9e v8b v5h (fun z => by rcases z with z | z <;> (intro h; cases h)) wou Fuel (p.1, p.2.1, p.2.2.1, p.2.2.2.1, p.2.2.2.2.1) _ k r (fun z => by rcases z with z | z <;> rfl) h
  cases h
theorem w1n (a0 : (List vac)) : var G47 vft Try.f63 [.lst tVersion a0] [] = vu7 a0 (fun (y : Bool) => some ⟨.ret, [.bool y], []⟩) := by rw [wg7]; kernel_rfl
theorem wwr : vao G47 ⟨0, 55, vft⟩ (Try.f63.body.getD .skip) :=
  vah (ids := [0]) (by kernel_rfl) (by kernel_rfl) ⟨wsk, trivial⟩
theorem w0a : val Try.prog 63 wlk := by
  refine told G47_ok follows Try.func63 (c := Try.f63.body.getD .skip) (by kernel_rfl) ?_
  intro args s k r hk
  unfold wlk at hk
  rcases vag hk with ⟨p, q, rfl, rfl⟩ | hk
  · exact ⟨vft, (wuf p.1).map _, w1n p.1, wwr⟩
  cases hk
def G48 : Glob := G47.add 63 wlk
theorem G48_ok : GlobOk Try.prog G48 := G47_ok.add ⟨Try.f63, Try.func63, by kernel_rfl, by kernel_rfl⟩ w0a
def vuc : Nat → Option LoopSpec
  | _ => none
theorem wzg (a0 : Int) (a1 : Int) (a2 : Int) (a3 : Int) (a4 : (List van)) (a5 : (List vam)) (a6 : Bool) (a7 : ByteArray) : var G48 vuc Try.f101 [.agg [.int .i64 a0, .int .i64 a1, .int .i64 a2, .int .i64 a3, .lst tRange a4, .lst tWrite a5, .bool a6, .str a7]] [] = vwd (a0, (a1, (a2, (a3, (a4, (a5, (a6, a7))))))) (fun (y : Bool) => some ⟨.ret, [.bool y], []⟩) := by rw [whw]; kernel_rfl
theorem wyx : vao G48 ⟨0, 6, vuc⟩ (Try.f101.body.getD .skip) :=
  vah (ids := []) (by kernel_rfl) (by kernel_rfl) trivial
theorem w1y : val Try.prog 101 wle := by
  refine told G48_ok follows Try.func101 (c := Try.f101.body.getD .skip) (by kernel_rfl) ?_
  intro args s k r hk
  unfold wle at hk
  rcases vag hk with ⟨p, q, rfl, rfl⟩ | hk
  · exact ⟨vuc, (ws3 (p.1.1, (p.1.2.1, (p.1.2.2.1, (p.1.2.2.2.1, (p.1.2.2.2.2.1, (p.1.2.2.2.2.2.1, (p.1.2.2.2.2.2.2.1, p.1.2.2.2.2.2.2.2.1)))))))).map _, wzg p.1.1 p.1.2.1 p.1.2.2.1 p.1.2.2.2.1 p.1.2.2.2.2.1 p.1.2.2.2.2.2.1 p.1.2.2.2.2.2.2.1 p.1.2.2.2.2.2.2.2.1, wyx⟩
  cases hk
def G49 : Glob := G48.add 101 wle
theorem G49_ok : GlobOk Try.prog G49 := G48_ok.add ⟨Try.f101, Try.func101, by kernel_rfl, by kernel_rfl⟩ w1y
def vt3 : Nat → Option LoopSpec
  | _ => none
theorem w0h (a0 : Int) (a1 : Int) (a2 : Int) (a3 : Int) (a4 : (List van)) (a5 : (List vam)) (a6 : Bool) (a7 : ByteArray) : var G49 vt3 Try.f102 [.agg [.int .i64 a0, .int .i64 a1, .int .i64 a2, .int .i64 a3, .lst tRange a4, .lst tWrite a5, .bool a6, .str a7]] [] = vw2 (a0, (a1, (a2, (a3, (a4, (a5, (a6, a7))))))) (fun (y : Bool) => some ⟨.ret, [.bool y], []⟩) := by rw [wim]; kernel_rfl
theorem wxw : vao G49 ⟨0, 6, vt3⟩ (Try.f102.body.getD .skip) :=
  vah (ids := []) (by kernel_rfl) (by kernel_rfl) trivial
theorem wxm : val Try.prog 102 wmc := by
  refine told G49_ok follows Try.func102 (c := Try.f102.body.getD .skip) (by kernel_rfl) ?_
  intro args s k r hk
  unfold wmc at hk
  rcases vag hk with ⟨p, q, rfl, rfl⟩ | hk
  · exact ⟨vt3, (wty (p.1.1, (p.1.2.1, (p.1.2.2.1, (p.1.2.2.2.1, (p.1.2.2.2.2.1, (p.1.2.2.2.2.2.1, (p.1.2.2.2.2.2.2.1, p.1.2.2.2.2.2.2.2.1)))))))).map _, w0h p.1.1 p.1.2.1 p.1.2.2.1 p.1.2.2.2.1 p.1.2.2.2.2.1 p.1.2.2.2.2.2.1 p.1.2.2.2.2.2.2.1 p.1.2.2.2.2.2.2.2.1, wxw⟩
  cases hk
def G50 : Glob := G49.add 102 wmc
theorem G50_ok : GlobOk Try.prog G50 := G49_ok.add ⟨Try.f102, Try.func102, by kernel_rfl, by kernel_rfl⟩ wxm
def vtv : Nat → Option LoopSpec
  | 3000000 => some ⟨[], [some tTxn], fun _ _ _ => none⟩
  | _ => none
theorem w24 (a0 : Int) : var G50 vtv Try.f169 [.nilS, .int .i64 a0] [] = vwe a0 (Sum.elim (fun (y : (List dTxn)) => some ⟨.ret, [.own 0], [.arr tTxn y]⟩) (fun (y : (List dTxn)) => some ⟨.ret, [.own 0], [.dep tTxn y 0]⟩)) := by rw [wmg]; kernel_rfl
theorem ww7 : vao G50 ⟨0, 27, vtv⟩ (Try.f169.body.getD .skip) :=
  vah (ids := []) (by kernel_rfl) (by kernel_rfl) trivial
theorem vtn : val Try.prog 169 vf9 := by
  refine told G50_ok follows Try.func169 (c := Try.f169.body.getD .skip) (by kernel_rfl) ?_
  intro args s k r hk
  unfold vf9 at hk
  rcases vag hk with ⟨p, q, rfl, rfl⟩ | hk
  · exact ⟨vtv, (wtt p.2.1).map2 _ _, w24 p.2.1, ww7⟩
  cases hk
def G51 : Glob := G50.add 169 vf9
theorem G51_ok : GlobOk Try.prog G51 := G50_ok.add ⟨Try.f169, Try.func169, by kernel_rfl, by kernel_rfl⟩ vtn
def vcy : Nat → Option LoopSpec
  | 0 => some ⟨[0, 3, 9, 10, 11], [], fun vals st k => vaj [.lst (.slice tTxn), .int .i64, .lst (.slice tTxn), .int .i64, .int .i64] [] vals st (fun p q => vai vlq Fuel (p.1, p.2.1, p.2.2.1, p.2.2.2.1, p.2.2.2.2.1) (fun z => k (.exit 0) [.lst (.slice tTxn) z.1, .int .i64 z.2.1, .lst (.slice tTxn) z.2.2.1, .int .i64 z.2.2.2.1, .int .i64 z.2.2.2.2] []))
      (none)⟩
  | 2 => some ⟨[6, 25, 26, 27], [], fun vals st k => vaj [.own 0, .lst (.slice tTxn), .int .i64, .int .i64] [.arr tTxn] vals st (fun p q => vai ve4 Fuel (.inl (p.2.1, p.2.2.1, p.2.2.2.1, q.1)) (Sum.elim (fun z => k (.exit 2) [.own 0, .lst (.slice tTxn) z.1, .int .i64 z.2.1, .int .i64 z.2.2.1] [.arr tTxn z.2.2.2]) (fun z => k (.exit 2) [.own 0, .lst (.slice tTxn) z.1, .int .i64 z.2.1, .int .i64 z.2.2.1] [.dep tTxn z.2.2.2 0])))
      (vaj [.own 0, .lst (.slice tTxn), .int .i64, .int .i64] [.dep tTxn 0] vals st (fun p q => vai ve4 Fuel (.inr (p.2.1, p.2.2.1, p.2.2.2.1, q.1)) (Sum.elim (fun z => k (.exit 2) [.own 0, .lst (.slice tTxn) z.1, .int .i64 z.2.1, .int .i64 z.2.2.1] [.arr tTxn z.2.2.2]) (fun z => k (.exit 2) [.own 0, .lst (.slice tTxn) z.1, .int .i64 z.2.1, .int .i64 z.2.2.1] [.dep tTxn z.2.2.2 0])))
      (none))⟩
  | _ => none
def v86 : q0T → List AV := (fun x => [.lst (.slice tTxn) x.1, .int .i64 x.2.1, .lst (.slice tTxn) x.2.2.1, .int .i64 x.2.2.2.1, .int .i64 x.2.2.2.2])
def v8e : q0T → St := (fun x => [])
def v4q : q0T → Out × List AV × St := (fun z => ((.exit 0), [.lst (.slice tTxn) z.1, .int .i64 z.2.1, .lst (.slice tTxn) z.2.2.1, .int .i64 z.2.2.2.1, .int .i64 z.2.2.2.2], []))
theorem wra (x : q0T) : exec G51 ⟨0, 36, vcy⟩ (vad Try.f81 0) (va3 ⟨0, 36, vcy⟩ [0, 3, 9, 10, 11] []) (va0 (vay 36) [0, 3, 9, 10, 11] (v86 x)) (v8e x) = vlq x (Sum.elim (fun y => some ⟨.norm, v86 y, v8e y⟩) fun z => some ⟨(v4q z).1, (v4q z).2.1, (v4q z).2.2⟩) := by
  kernel_rfl
theorem wsp : ∀ sp, (vcy 0) = some sp → vbc G51 ⟨0, 36, vcy⟩ sp (vad Try.f81 0) := by
  intro sp hsp vals st k r h
  cases hsp
  dsimp only at h
  rcases vae h with ⟨p, q, rfl, rfl, h⟩ | h
  · exact vaq wd5 v86 v8e v4q (fun z => by (intro h; cases h)) wra Fuel (p.1, p.2.1, p.2.2.1, p.2.2.2.1, p.2.2.2.2.1) _ k r (fun z => rfl) h
  cases h
def v3j : (q1T ⊕ q1T) → List AV := (Sum.elim (fun x => [.own 0, .lst (.slice tTxn) x.1, .int .i64 x.2.1, .int .i64 x.2.2.1]) (fun x => [.own 0, .lst (.slice tTxn) x.1, .int .i64 x.2.1, .int .i64 x.2.2.1]))
def v5e : (q1T ⊕ q1T) → St := (Sum.elim (fun x => [.arr tTxn x.2.2.2]) (fun x => [.dep tTxn x.2.2.2 0]))
def vwv : (q1T ⊕ q1T) → Out × List AV × St := (Sum.elim (fun z => ((.exit 2), [.own 0, .lst (.slice tTxn) z.1, .int .i64 z.2.1, .int .i64 z.2.2.1], [.arr tTxn z.2.2.2])) (fun z => ((.exit 2), [.own 0, .lst (.slice tTxn) z.1, .int .i64 z.2.1, .int .i64 z.2.2.1], [.dep tTxn z.2.2.2 0])))
theorem wdg (x : (q1T ⊕ q1T)) : exec G51 ⟨0, 36, vcy⟩ (vad Try.f81 2) (va3 ⟨0, 36, vcy⟩ [6, 25, 26, 27] []) (va0 (vay 36) [6, 25, 26, 27] (v3j x)) (v5e x) = ve4 x (Sum.elim (fun y => some ⟨.norm, v3j y, v5e y⟩) fun z => some ⟨(vwv z).1, (vwv z).2.1, (vwv z).2.2⟩) := by
  rcases x with x | x <;> kernel_rfl
theorem wpg : ∀ sp, (vcy 2) = some sp → vbc G51 ⟨0, 36, vcy⟩ sp (vad Try.f81 2) := by
  intro sp hsp vals st k r h
  cases hsp
  dsimp only at h
  rcases vae h with ⟨p, q, rfl, rfl, h⟩ | h
  · exact vaq vv4 v3j v5e vwv (fun z => by rcases z with z | z <;> (intro h; cases h)) wdg Fuel (.inl (p.2.1, p.2.2.1, p.2.2.2.1, q.1)) _ k r (fun z => by rcases z with z | z <;> rfl) h
  rcases vae h with ⟨p, q, rfl, rfl, h⟩ | h
  · exact vaq vv4 v3j v5e vwv (fun z => by rcases z with z | z <;> (intro h; cases h)) wdg Fuel (.inr (p.2.1, p.2.2.1, p.2.2.2.1, q.1)) _ k r (fun z => by rcases z with z | z <;> rfl) h
  cases h
theorem wy4 (a0 : (List (List dTxn))) : var G51 vcy Try.f81 [.lst (.slice tTxn) a0] [] = vry a0 (Sum.elim (fun (y : (List dTxn)) => some ⟨.ret, [.own 0], [.arr tTxn y]⟩) (fun (y : (List dTxn)) => some ⟨.ret, [.own 0], [.dep tTxn y 0]⟩)) := by rw [wje]; kernel_rfl
theorem wwj : vao G51 ⟨0, 36, vcy⟩ (Try.f81.body.getD .skip) :=
  vah (ids := [0, 2]) (by kernel_rfl) (by kernel_rfl) ⟨wsp, ⟨wpg, trivial⟩⟩
theorem w2t : val Try.prog 81 wk2 := by
  refine told G51_ok follows Try.func81 (c := Try.f81.body.getD .skip) (by kernel_rfl) ?_
  intro args s k r hk
  unfold wk2 at hk
  rcases vag hk with ⟨p, q, rfl, rfl⟩ | hk
  · exact ⟨vcy, (wto p.1).map2 _ _, wy4 p.1, wwj⟩
  cases hk
def G52 : Glob := G51.add 81 wk2
theorem G52_ok : GlobOk Try.prog G52 := G51_ok.add ⟨Try.f81, Try.func81, by kernel_rfl, by kernel_rfl⟩ w2t
def vt6 : Nat → Option LoopSpec
  | _ => none
theorem wx5 (a0 : Int) (a1 : Int) (a2 : Int) (a3 : Int) (a4 : (List van)) (a5 : (List vam)) (a6 : Bool) (a7 : ByteArray) (a8 : Int) (a9 : Int) (a10 : Int) (a11 : Int) (a12 : (List van)) (a13 : (List vam)) (a14 : Bool) (a15 : ByteArray) : var G52 vt6 Try.f168 [.agg [.int .i64 a0, .int .i64 a1, .int .i64 a2, .int .i64 a3, .lst tRange a4, .lst tWrite a5, .bool a6, .str a7], .bp 0 0] [.box [.int .i64 a8, .int .i64 a9, .int .i64 a10, .int .i64 a11, .lst tRange a12, .lst tWrite a13, .bool a14, .str a15]] = vwk (a0, (a1, (a2, (a3, (a4, (a5, (a6, a7))))))) a8 a9 a10 a11 a12 a13 a14 a15 (fun (y : q25T) => some ⟨.ret, [.bool y.1], [.box [.int .i64 y.2.1, .int .i64 y.2.2.1, .int .i64 y.2.2.2.1, .int .i64 y.2.2.2.2.1, .lst tRange y.2.2.2.2.2.1, .lst tWrite y.2.2.2.2.2.2.1, .bool y.2.2.2.2.2.2.2.1, .str y.2.2.2.2.2.2.2.2]]⟩) := by rw [wil]; kernel_rfl
theorem wzl : vao G52 ⟨1, 9, vt6⟩ (Try.f168.body.getD .skip) :=
  vah (ids := []) (by kernel_rfl) (by kernel_rfl) trivial
theorem ww5 : val Try.prog 168 wjm := by
  refine told G52_ok follows Try.func168 (c := Try.f168.body.getD .skip) (by kernel_rfl) ?_
  intro args s k r hk
  unfold wjm at hk
  rcases vag hk with ⟨p, q, rfl, rfl⟩ | hk
  · exact ⟨vt6, (ws1 (p.1.1, (p.1.2.1, (p.1.2.2.1, (p.1.2.2.2.1, (p.1.2.2.2.2.1, (p.1.2.2.2.2.2.1, (p.1.2.2.2.2.2.2.1, p.1.2.2.2.2.2.2.2.1))))))) q.1.1 q.1.2.1 q.1.2.2.1 q.1.2.2.2.1 q.1.2.2.2.2.1 q.1.2.2.2.2.2.1 q.1.2.2.2.2.2.2.1 q.1.2.2.2.2.2.2.2.1).map _, wx5 p.1.1 p.1.2.1 p.1.2.2.1 p.1.2.2.2.1 p.1.2.2.2.2.1 p.1.2.2.2.2.2.1 p.1.2.2.2.2.2.2.1 p.1.2.2.2.2.2.2.2.1 q.1.1 q.1.2.1 q.1.2.2.1 q.1.2.2.2.1 q.1.2.2.2.2.1 q.1.2.2.2.2.2.1 q.1.2.2.2.2.2.2.1 q.1.2.2.2.2.2.2.2.1, wzl⟩
  cases hk
def G53 : Glob := G52.add 168 wjm
theorem G53_ok : GlobOk Try.prog G53 := G52_ok.add ⟨Try.f168, Try.func168, by kernel_rfl, by kernel_rfl⟩ ww5
def vgi : Nat → Option LoopSpec
  | 0 => some ⟨[0, 1, 4, 7, 8], [], fun vals st k => vaj [.lst tTxn, .fn 168 [.bp 0 0], .int .i64, .int .i64, .int .i64] [.box [.int .i64, .int .i64, .int .i64, .int .i64, .lst tRange, .lst tWrite, .bool, .str]] vals st (fun p q => vai vlx Fuel (p.1, p.2.2.1, p.2.2.2.1, p.2.2.2.2.1, q.1.1, q.1.2.1, q.1.2.2.1, q.1.2.2.2.1, q.1.2.2.2.2.1, q.1.2.2.2.2.2.1, q.1.2.2.2.2.2.2.1, q.1.2.2.2.2.2.2.2.1) (Sum.elim (fun z => k .ret [.lst tTxn z.1, .fn 168 [.bp 0 0], .int .i64 z.2.1, .int .i64 z.2.2.1, .int .i64 z.2.2.2.1] [.box [.int .i64 z.2.2.2.2.1, .int .i64 z.2.2.2.2.2.1, .int .i64 z.2.2.2.2.2.2.1, .int .i64 z.2.2.2.2.2.2.2.1, .lst tRange z.2.2.2.2.2.2.2.2.1, .lst tWrite z.2.2.2.2.2.2.2.2.2.1, .bool z.2.2.2.2.2.2.2.2.2.2.1, .str z.2.2.2.2.2.2.2.2.2.2.2]]) (fun z => k (.exit 0) [.lst tTxn z.1, .fn 168 [.bp 0 0], .int .i64 z.2.1, .int .i64 z.2.2.1, .int .i64 z.2.2.2.1] [.box [.int .i64 z.2.2.2.2.1, .int .i64 z.2.2.2.2.2.1, .int .i64 z.2.2.2.2.2.2.1, .int .i64 z.2.2.2.2.2.2.2.1, .lst tRange z.2.2.2.2.2.2.2.2.1, .lst tWrite z.2.2.2.2.2.2.2.2.2.1, .bool z.2.2.2.2.2.2.2.2.2.2.1, .str z.2.2.2.2.2.2.2.2.2.2.2]])))
      (none)⟩
  | _ => none
def wam : q6T → List AV := (fun x => [.lst tTxn x.1, .fn 168 [.bp 0 0], .int .i64 x.2.1, .int .i64 x.2.2.1, .int .i64 x.2.2.2.1])
def v72 : q6T → St := (fun x => [.box [.int .i64 x.2.2.2.2.1, .int .i64 x.2.2.2.2.2.1, .int .i64 x.2.2.2.2.2.2.1, .int .i64 x.2.2.2.2.2.2.2.1, .lst tRange x.2.2.2.2.2.2.2.2.1, .lst tWrite x.2.2.2.2.2.2.2.2.2.1, .bool x.2.2.2.2.2.2.2.2.2.2.1, .str x.2.2.2.2.2.2.2.2.2.2.2]])
def v31 : (q6T ⊕ q6T) → Out × List AV × St := (Sum.elim (fun z => (.ret, [.lst tTxn z.1, .fn 168 [.bp 0 0], .int .i64 z.2.1, .int .i64 z.2.2.1, .int .i64 z.2.2.2.1], [.box [.int .i64 z.2.2.2.2.1, .int .i64 z.2.2.2.2.2.1, .int .i64 z.2.2.2.2.2.2.1, .int .i64 z.2.2.2.2.2.2.2.1, .lst tRange z.2.2.2.2.2.2.2.2.1, .lst tWrite z.2.2.2.2.2.2.2.2.2.1, .bool z.2.2.2.2.2.2.2.2.2.2.1, .str z.2.2.2.2.2.2.2.2.2.2.2]])) (fun z => ((.exit 0), [.lst tTxn z.1, .fn 168 [.bp 0 0], .int .i64 z.2.1, .int .i64 z.2.2.1, .int .i64 z.2.2.2.1], [.box [.int .i64 z.2.2.2.2.1, .int .i64 z.2.2.2.2.2.1, .int .i64 z.2.2.2.2.2.2.1, .int .i64 z.2.2.2.2.2.2.2.1, .lst tRange z.2.2.2.2.2.2.2.2.1, .lst tWrite z.2.2.2.2.2.2.2.2.2.1, .bool z.2.2.2.2.2.2.2.2.2.2.1, .str z.2.2.2.2.2.2.2.2.2.2.2]])))
theorem wqo (x : q6T) : exec G53 ⟨1, 19, vgi⟩ (vad Try.f196 0) (va3 ⟨1, 19, vgi⟩ [0, 1, 4, 7, 8] []) (va0 (vay 19) [0, 1, 4, 7, 8] (wam x)) (v72 x) = vlx x (Sum.elim (fun y => some ⟨.norm, wam y, v72 y⟩) fun z => some ⟨(v31 z).1, (v31 z).2.1, (v31 z).2.2⟩) := by
  kernel_rfl
theorem wnx : ∀ sp, (vgi 0) = some sp → vbc G53 ⟨1, 19, vgi⟩ sp (vad Try.f196 0) := by
  intro sp hsp vals st k r h
  cases hsp
  dsimp only at h
  rcases vae h with ⟨p, q, rfl, rfl, h⟩ | h
  · exact vaq wfl wam v72 v31 (fun z => by rcases z with z | z <;> (intro h; cases h)) wqo Fuel (p.1, p.2.2.1, p.2.2.2.1, p.2.2.2.2.1, q.1.1, q.1.2.1, q.1.2.2.1, q.1.2.2.2.1, q.1.2.2.2.2.1, q.1.2.2.2.2.2.1, q.1.2.2.2.2.2.2.1, q.1.2.2.2.2.2.2.2.1) _ k r (fun z => by rcases z with z | z <;> rfl) h
  cases h
theorem w0n (a0 : (List dTxn)) (a1 : Int) (a2 : Int) (a3 : Int) (a4 : Int) (a5 : (List van)) (a6 : (List vam)) (a7 : Bool) (a8 : ByteArray) : var G53 vgi Try.f196 [.lst tTxn a0, .fn 168 [.bp 0 0]] [.box [.int .i64 a1, .int .i64 a2, .int .i64 a3, .int .i64 a4, .lst tRange a5, .lst tWrite a6, .bool a7, .str a8]] = v1y a0 a1 a2 a3 a4 a5 a6 a7 a8 (fun (y : q58T) => some ⟨.ret, [.int .i64 y.1], [.box [.int .i64 y.2.1, .int .i64 y.2.2.1, .int .i64 y.2.2.2.1, .int .i64 y.2.2.2.2.1, .lst tRange y.2.2.2.2.2.1, .lst tWrite y.2.2.2.2.2.2.1, .bool y.2.2.2.2.2.2.2.1, .str y.2.2.2.2.2.2.2.2]]⟩) := by rw [wi5]; kernel_rfl
theorem w2o : vao G53 ⟨1, 19, vgi⟩ (Try.f196.body.getD .skip) :=
  vah (ids := [0]) (by kernel_rfl) (by kernel_rfl) ⟨wnx, trivial⟩
theorem vmc : val Try.prog 196 vdu := by
  refine told G53_ok follows Try.func196 (c := Try.f196.body.getD .skip) (by kernel_rfl) ?_
  intro args s k r hk
  unfold vdu at hk
  rcases vag hk with ⟨p, q, rfl, rfl⟩ | hk
  · exact ⟨vgi, (wt8 p.1 q.1.1 q.1.2.1 q.1.2.2.1 q.1.2.2.2.1 q.1.2.2.2.2.1 q.1.2.2.2.2.2.1 q.1.2.2.2.2.2.2.1 q.1.2.2.2.2.2.2.2.1).map _, w0n p.1 q.1.1 q.1.2.1 q.1.2.2.1 q.1.2.2.2.1 q.1.2.2.2.2.1 q.1.2.2.2.2.2.1 q.1.2.2.2.2.2.2.1 q.1.2.2.2.2.2.2.2.1, w2o⟩
  cases hk
def G54 : Glob := G53.add 196 vdu
theorem G54_ok : GlobOk Try.prog G54 := G53_ok.add ⟨Try.f196, Try.func196, by kernel_rfl, by kernel_rfl⟩ vmc
def vtj : Nat → Option LoopSpec
  | _ => none
theorem w13 (a0 : (List dTxn)) (a1 : Int) (a2 : Int) (a3 : Int) (a4 : Int) (a5 : (List van)) (a6 : (List vam)) (a7 : Bool) (a8 : ByteArray) : var G54 vtj Try.f232 [.lst tTxn a0, .fn 168 [.bp 0 0]] [.box [.int .i64 a1, .int .i64 a2, .int .i64 a3, .int .i64 a4, .lst tRange a5, .lst tWrite a6, .bool a7, .str a8]] = v7u a0 a1 a2 a3 a4 a5 a6 a7 a8 (fun (y : q25T) => some ⟨.ret, [.bool y.1], [.box [.int .i64 y.2.1, .int .i64 y.2.2.1, .int .i64 y.2.2.2.1, .int .i64 y.2.2.2.2.1, .lst tRange y.2.2.2.2.2.1, .lst tWrite y.2.2.2.2.2.2.1, .bool y.2.2.2.2.2.2.2.1, .str y.2.2.2.2.2.2.2.2]]⟩) := by rw [wnj]; kernel_rfl
theorem wyn : vao G54 ⟨1, 9, vtj⟩ (Try.f232.body.getD .skip) :=
  vah (ids := []) (by kernel_rfl) (by kernel_rfl) trivial
theorem vjl : val Try.prog 232 vct := by
  refine told G54_ok follows Try.func232 (c := Try.f232.body.getD .skip) (by kernel_rfl) ?_
  intro args s k r hk
  unfold vct at hk
  rcases vag hk with ⟨p, q, rfl, rfl⟩ | hk
  · exact ⟨vtj, (wtz p.1 q.1.1 q.1.2.1 q.1.2.2.1 q.1.2.2.2.1 q.1.2.2.2.2.1 q.1.2.2.2.2.2.1 q.1.2.2.2.2.2.2.1 q.1.2.2.2.2.2.2.2.1).map _, w13 p.1 q.1.1 q.1.2.1 q.1.2.2.1 q.1.2.2.2.1 q.1.2.2.2.2.1 q.1.2.2.2.2.2.1 q.1.2.2.2.2.2.2.1 q.1.2.2.2.2.2.2.2.1, wyn⟩
  cases hk
def G55 : Glob := G54.add 232 vct
theorem G55_ok : GlobOk Try.prog G55 := G54_ok.add ⟨Try.f232, Try.func232, by kernel_rfl, by kernel_rfl⟩ vjl
def vts : Nat → Option LoopSpec
  | _ => none
theorem w0e (a0 : (List dTxn)) (a1 : Int) (a2 : Int) (a3 : Int) (a4 : Int) (a5 : (List van)) (a6 : (List vam)) (a7 : Bool) (a8 : ByteArray) : var G55 vts Try.f167 [.lst tTxn a0, .fn 168 [.bp 0 0]] [.box [.int .i64 a1, .int .i64 a2, .int .i64 a3, .int .i64 a4, .lst tRange a5, .lst tWrite a6, .bool a7, .str a8]] = vxp a0 a1 a2 a3 a4 a5 a6 a7 a8 (fun (y : q25T) => some ⟨.ret, [.bool y.1], [.box [.int .i64 y.2.1, .int .i64 y.2.2.1, .int .i64 y.2.2.2.1, .int .i64 y.2.2.2.2.1, .lst tRange y.2.2.2.2.2.1, .lst tWrite y.2.2.2.2.2.2.1, .bool y.2.2.2.2.2.2.2.1, .str y.2.2.2.2.2.2.2.2]]⟩) := by rw [whp]; kernel_rfl
theorem w3k : vao G55 ⟨1, 8, vts⟩ (Try.f167.body.getD .skip) :=
  vah (ids := []) (by kernel_rfl) (by kernel_rfl) trivial
theorem wbl : val Try.prog 167 vrl := by
  refine told G55_ok follows Try.func167 (c := Try.f167.body.getD .skip) (by kernel_rfl) ?_
  intro args s k r hk
  unfold vrl at hk
  rcases vag hk with ⟨p, q, rfl, rfl⟩ | hk
  · exact ⟨vts, (wue p.1 q.1.1 q.1.2.1 q.1.2.2.1 q.1.2.2.2.1 q.1.2.2.2.2.1 q.1.2.2.2.2.2.1 q.1.2.2.2.2.2.2.1 q.1.2.2.2.2.2.2.2.1).map _, w0e p.1 q.1.1 q.1.2.1 q.1.2.2.1 q.1.2.2.2.1 q.1.2.2.2.2.1 q.1.2.2.2.2.2.1 q.1.2.2.2.2.2.2.1 q.1.2.2.2.2.2.2.2.1, w3k⟩
  cases hk
def G56 : Glob := G55.add 167 vrl
theorem G56_ok : GlobOk Try.prog G56 := G55_ok.add ⟨Try.f167, Try.func167, by kernel_rfl, by kernel_rfl⟩ wbl
def vgc : Nat → Option LoopSpec
  | 0 => some ⟨[0, 1, 4, 7, 8, 9], [], fun vals st k => vaj [.lst tTxn, .int .i64, .bool, .lst tTxn, .int .i64, .int .i64] [] vals st (fun p q => vai vlb Fuel (p.1, p.2.1, p.2.2.1, p.2.2.2.1, p.2.2.2.2.1, p.2.2.2.2.2.1) (Sum.elim (fun z => k .ret [.lst tTxn z.1, .int .i64 z.2.1, .bool z.2.2.1, .lst tTxn z.2.2.2.1, .int .i64 z.2.2.2.2.1, .int .i64 z.2.2.2.2.2] []) (fun z => k (.exit 0) [.lst tTxn z.1, .int .i64 z.2.1, .bool z.2.2.1, .lst tTxn z.2.2.2.1, .int .i64 z.2.2.2.2.1, .int .i64 z.2.2.2.2.2] [])))
      (none)⟩
  | _ => none
def wav : q5T → List AV := (fun x => [.lst tTxn x.1, .int .i64 x.2.1, .bool x.2.2.1, .lst tTxn x.2.2.2.1, .int .i64 x.2.2.2.2.1, .int .i64 x.2.2.2.2.2])
def wan : q5T → St := (fun x => [])
def v2w : (q5T ⊕ q5T) → Out × List AV × St := (Sum.elim (fun z => (.ret, [.lst tTxn z.1, .int .i64 z.2.1, .bool z.2.2.1, .lst tTxn z.2.2.2.1, .int .i64 z.2.2.2.2.1, .int .i64 z.2.2.2.2.2], [])) (fun z => ((.exit 0), [.lst tTxn z.1, .int .i64 z.2.1, .bool z.2.2.1, .lst tTxn z.2.2.2.1, .int .i64 z.2.2.2.2.1, .int .i64 z.2.2.2.2.2], [])))
theorem wnz (x : q5T) : exec G56 ⟨0, 26, vgc⟩ (vad Try.f80 0) (va3 ⟨0, 26, vgc⟩ [0, 1, 4, 7, 8, 9] []) (va0 (vay 26) [0, 1, 4, 7, 8, 9] (wav x)) (wan x) = vlb x (Sum.elim (fun y => some ⟨.norm, wav y, wan y⟩) fun z => some ⟨(v2w z).1, (v2w z).2.1, (v2w z).2.2⟩) := by
  kernel_rfl
theorem wsh : ∀ sp, (vgc 0) = some sp → vbc G56 ⟨0, 26, vgc⟩ sp (vad Try.f80 0) := by
  intro sp hsp vals st k r h
  cases hsp
  dsimp only at h
  rcases vae h with ⟨p, q, rfl, rfl, h⟩ | h
  · exact vaq we4 wav wan v2w (fun z => by rcases z with z | z <;> (intro h; cases h)) wnz Fuel (p.1, p.2.1, p.2.2.1, p.2.2.2.1, p.2.2.2.2.1, p.2.2.2.2.2.1) _ k r (fun z => by rcases z with z | z <;> rfl) h
  cases h
theorem w2r (a0 : (List dTxn)) (a1 : Int) : var G56 vgc Try.f80 [.lst tTxn a0, .int .i64 a1] [] = vog a0 a1 (fun (y : Bool) => some ⟨.ret, [.bool y], []⟩) := by rw [wjh]; kernel_rfl
theorem w1u : vao G56 ⟨0, 26, vgc⟩ (Try.f80.body.getD .skip) :=
  vah (ids := [0]) (by kernel_rfl) (by kernel_rfl) ⟨wsh, trivial⟩
theorem wzr : val Try.prog 80 wix := by
  refine told G56_ok follows Try.func80 (c := Try.f80.body.getD .skip) (by kernel_rfl) ?_
  intro args s k r hk
  unfold wix at hk
  rcases vag hk with ⟨p, q, rfl, rfl⟩ | hk
  · exact ⟨vgc, (wnm p.1 p.2.1).map _, w2r p.1 p.2.1, w1u⟩
  cases hk
def G57 : Glob := G56.add 80 wix
theorem G57_ok : GlobOk Try.prog G57 := G56_ok.add ⟨Try.f80, Try.func80, by kernel_rfl, by kernel_rfl⟩ wzr
end
end Go.VE
