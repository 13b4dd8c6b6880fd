/- Each function told by its native program; written by gen.py. -/
import Derived.Test.YtiajamilfgkecaaFnOwnS0
namespace Go.VE
open Go.Proofs
noncomputable section
set_option linter.unusedVariables false
set_option linter.unusedSimpArgs false
set_option maxRecDepth 100000
def vx4 : Nat → Option LoopSpec
  | _ => none
theorem v7h : vae Try.prog 51 v5d :=
  vbx G0_ok follows (Try.f51.body.getD .skip) Try.func51 (by kernel_rfl) fun p q => ⟨vx4, (n11n_p _).p.map _, by rw [vz5]; kernel_rfl, vad (ids := []) (by kernel_rfl) (by kernel_rfl) trivial⟩
def G1 : Glob := G0.add 51 v5d
theorem G1_ok : GlobOk Try.prog G1 := G0_ok.add ⟨Try.f51, Try.func51, by kernel_rfl, by kernel_rfl⟩ v7h
def ve1 : ((List Int) × Int × Int) → List AV := fun x => [.lst (.int .u8) x.1, .i x.2.1, .i x.2.2]
def vew : ((List Int) × Int × Int) → St := fun x => []
def vtz : ((List Int) × Int × Int) → List AV := fun x => [.lst (.int .u8) x.1, .i x.2.1, .i x.2.2]
def vty : ((List Int) × Int × Int) → St := fun x => []
def vj6 : Nat → Option LoopSpec
  | 6000001 => some (ctS [0, 3, 4] [] [.lst (.int .u8), .i, .i] [] vc2 (fun p q => (p.1, p.2.1, p.2.2.1)) (fun k => (onE (exZ .norm ve1 vew) k)))
  | 0 => some (lpS [0, 3, 4] [] [.lst (.int .u8), .i, .i] [] viw (fun p q => (p.1, p.2.1, p.2.2.1)) (fun k => (onE (exZ (.exit 0) vtz vty) k)))
  | _ => none
theorem vnf : CtAt G1.shallow ⟨0, 32, vj6⟩ Try.f113 6000001 :=
  v4s rfl (fun x => (n26n_jp6000001 x).p) ve1 vew (exZ .norm ve1 vew) (fun _ _ => ⟨rfl, rfl⟩) (fun _ _ => rfl) (fun x => by kernel_rfl)
theorem v1k : LpAt G1.shallow ⟨0, 32, vj6⟩ Try.f113 0 :=
  va9 rfl (fun x => (n26n_bp0 x).p) vtz vty (exZ (.exit 0) vtz vty) (fun _ _ => ⟨rfl, rfl⟩) (fun z => by (intro h; cases h)) (fun _ _ => rfl) (fun x => by kernel_rfl)
theorem v72 : vae Try.prog 113 v4n :=
  vbx G1_ok.shallow follows (Try.f113.body.getD .skip) Try.func113 (by kernel_rfl) fun p q => ⟨vj6, (n26n_p _).p.map _, by rw [vzh]; kernel_rfl, vad (ids := [6000001, 0]) (by kernel_rfl) (by kernel_rfl) ⟨vnf, ⟨v1k, trivial⟩⟩⟩
def G2 : Glob := G1.add 113 v4n
theorem G2_ok : GlobOk Try.prog G2 := G1_ok.add ⟨Try.f113, Try.func113, by kernel_rfl, by kernel_rfl⟩ v72
def vyb : Nat → Option LoopSpec
  | 2000002 => some ⟨[0, 2, 4, 6, 8, 10, 12, 14, 16, 18, 20, 22, 24], [], fun _ _ _ => none⟩
  | 2000003 => some ⟨[0, 2, 4, 6, 8, 10, 12, 14, 16, 18], [], fun _ _ _ => none⟩
  | 2000004 => some ⟨[0, 2, 4, 6, 8, 10, 12, 14, 16, 18, 20, 22, 24, 26, 28], [], fun _ _ _ => none⟩
  | _ => none
theorem v7c : vae Try.prog 130 v4d :=
  vbx G2_ok.shallow follows (Try.f130.body.getD .skip) Try.func130 (by kernel_rfl) fun p q => ⟨vyb, (n25n_p _ _ _).p.map _, by rw [vy4]; kernel_rfl, vad (ids := []) (by kernel_rfl) (by kernel_rfl) trivial⟩
def G3 : Glob := G2.add 130 v4d
theorem G3_ok : GlobOk Try.prog G3 := G2_ok.add ⟨Try.f130, Try.func130, by kernel_rfl, by kernel_rfl⟩ v7c
def vw9 : Nat → Option LoopSpec
  | _ => none
theorem v7z : vae Try.prog 125 v43 :=
  vbx G3_ok.shallow follows (Try.f125.body.getD .skip) Try.func125 (by kernel_rfl) fun p q => ⟨vw9, (n24n_p _ _ _ _).p.map _, by rw [v0h]; kernel_rfl, vad (ids := []) (by kernel_rfl) (by kernel_rfl) trivial⟩
def G4 : Glob := G3.add 125 v43
theorem G4_ok : GlobOk Try.prog G4 := G3_ok.add ⟨Try.f125, Try.func125, by kernel_rfl, by kernel_rfl⟩ v7z
def vx7 : Nat → Option LoopSpec
  | _ => none
theorem v8x : vae Try.prog 166 v4a :=
  vbx G4_ok.shallow follows (Try.f166.body.getD .skip) Try.func166 (by kernel_rfl) fun p q => ⟨vx7, (n28n_p _ _ _ _).p.map _, by rw [vzb]; kernel_rfl, vad (ids := []) (by kernel_rfl) (by kernel_rfl) trivial⟩
def G5 : Glob := G4.add 166 v4a
theorem G5_ok : GlobOk Try.prog G5 := G4_ok.add ⟨Try.f166, Try.func166, by kernel_rfl, by kernel_rfl⟩ v8x
def vyc : Nat → Option LoopSpec
  | _ => none
theorem v7a : vae Try.prog 124 v4v :=
  vbx G5_ok.shallow follows (Try.f124.body.getD .skip) Try.func124 (by kernel_rfl) fun p q => ⟨vyc, (n29n_p _ _ _).p.map _, by rw [vw1]; kernel_rfl, vad (ids := []) (by kernel_rfl) (by kernel_rfl) trivial⟩
def G6 : Glob := G5.add 124 v4v
theorem G6_ok : GlobOk Try.prog G6 := G5_ok.add ⟨Try.f124, Try.func124, by kernel_rfl, by kernel_rfl⟩ v7a
def vx8 : Nat → Option LoopSpec
  | _ => none
theorem v61 : vae Try.prog 132 v5b :=
  vbx G6_ok.shallow follows (Try.f132.body.getD .skip) Try.func132 (by kernel_rfl) fun p q => ⟨vx8, (n27n_p _ _ _ _).p.map _, by rw [v0p]; kernel_rfl, vad (ids := []) (by kernel_rfl) (by kernel_rfl) trivial⟩
def G7 : Glob := G6.add 132 v5b
theorem G7_ok : GlobOk Try.prog G7 := G6_ok.add ⟨Try.f132, Try.func132, by kernel_rfl, by kernel_rfl⟩ v61
def vxo : Nat → Option LoopSpec
  | _ => none
theorem v60 : vae Try.prog 133 v4u :=
  vbx G7_ok.shallow follows (Try.f133.body.getD .skip) Try.func133 (by kernel_rfl) fun p q => ⟨vxo, (n30n_p _ _ _).p.map _, by rw [vyw]; kernel_rfl, vad (ids := []) (by kernel_rfl) (by kernel_rfl) trivial⟩
def G8 : Glob := G7.add 133 v4u
theorem G8_ok : GlobOk Try.prog G8 := G7_ok.add ⟨Try.f133, Try.func133, by kernel_rfl, by kernel_rfl⟩ v60
def vt6 : q24T → List AV := fun x => [.bp 0 0, .own 1, .i x.1]
def vuj : q24T → St := fun x => [.box [.lst (.int .u8) x.2.1, .i x.2.2.1, .i x.2.2.2.1], .arr tRange x.2.2.2.2]
def vos : Nat → Option LoopSpec
  | 0 => some (lpS [0, 3, 4] [] [.bp 0 0, .own 1, .i] [.box [.lst (.int .u8), .i, .i], .arr tRange] vii (fun p q => (p.2.2.1, q.1.1, q.1.2.1, q.1.2.2.1, q.2.1)) (fun k => (onE (exZ (.exit 0) vt6 vuj) k)))
  | _ => none
theorem v14 : LpAt G8.shallow ⟨1, 18, vos⟩ Try.f159 0 :=
  va9 rfl (fun x => (n31n_bp0 x).p) vt6 vuj (exZ (.exit 0) vt6 vuj) (fun _ _ => ⟨rfl, rfl⟩) (fun z => by (intro h; cases h)) (fun _ _ => rfl) (fun x => by kernel_rfl)
theorem v7q : vae Try.prog 159 v5c :=
  vbx G8_ok.shallow follows (Try.f159.body.getD .skip) Try.func159 (by kernel_rfl) fun p q => ⟨vos, (n31n_p _ _ _).p.map _, by rw [vz1]; kernel_rfl, vad (ids := [0]) (by kernel_rfl) (by kernel_rfl) ⟨v14, trivial⟩⟩
def G9 : Glob := G8.add 159 v5c
theorem G9_ok : GlobOk Try.prog G9 := G8_ok.add ⟨Try.f159, Try.func159, by kernel_rfl, by kernel_rfl⟩ v7q
def vx1 : Nat → Option LoopSpec
  | _ => none
theorem v7j : vae Try.prog 165 v41 :=
  vbx G9_ok.shallow follows (Try.f165.body.getD .skip) Try.func165 (by kernel_rfl) fun p q => ⟨vx1, (n32n_p _ _ _).p.map _, by rw [v04]; kernel_rfl, vad (ids := []) (by kernel_rfl) (by kernel_rfl) trivial⟩
def G10 : Glob := G9.add 165 v41
theorem G10_ok : GlobOk Try.prog G10 := G9_ok.add ⟨Try.f165, Try.func165, by kernel_rfl, by kernel_rfl⟩ v7j
def vt5 : q15T → List AV := fun x => [.lst tWrite x.1, .bp 0 0, .own 1, .i x.2.1]
def vtv : q15T → St := fun x => [.box [.str x.2.2.1, .str x.2.2.2.1, .bool x.2.2.2.2.1], .arr tWrite x.2.2.2.2.2]
def vs5 : q15T → List AV := fun x => [.lst tWrite x.1, .bp 0 0, .own 1, .i x.2.1]
def vsw : q15T → St := fun x => [.box [.str x.2.2.1, .str x.2.2.2.1, .bool x.2.2.2.2.1], .arr tWrite x.2.2.2.2.2]
def vkl : Nat → Option LoopSpec
  | 0 => some (lpS [0, 3, 5, 6] [] [.lst tWrite, .bp 0 0, .own 1, .i] [.box [.str, .str, .bool], .arr tWrite] vhm (fun p q => (p.1, p.2.2.2.1, q.1.1, q.1.2.1, q.1.2.2.1, q.2.1)) (fun k => (onE (exZ (.exit 0) vt5 vtv) k)))
  | 2 => some (lpS [0, 3, 5, 7] [] [.lst tWrite, .bp 0 0, .own 1, .i] [.box [.str, .str, .bool], .arr tWrite] vgz (fun p q => (p.1, p.2.2.2.1, q.1.1, q.1.2.1, q.1.2.2.1, q.2.1)) (fun k => (onE (exZ (.exit 2) vs5 vsw) k)))
  | 2000005 => some ⟨[0, 2, 4, 6, 8, 10, 12, 14], [], fun _ _ _ => none⟩
  | 2000011 => some ⟨[0, 2, 4, 6, 8, 10, 12, 14], [], fun _ _ _ => none⟩
  | _ => none
theorem v18 : LpAt G10.shallow ⟨0, 56, vkl⟩ Try.f88 0 :=
  va9 rfl (fun x => (n22n_bp0 x).p) vt5 vtv (exZ (.exit 0) vt5 vtv) (fun _ _ => ⟨rfl, rfl⟩) (fun z => by (intro h; cases h)) (fun _ _ => rfl) (fun x => by kernel_rfl)
theorem v3l : LpAt G10.shallow ⟨0, 56, vkl⟩ Try.f88 2 :=
  va9 rfl (fun x => (n22n_bp2 x).p) vs5 vsw (exZ (.exit 2) vs5 vsw) (fun _ _ => ⟨rfl, rfl⟩) (fun z => by (intro h; cases h)) (fun _ _ => rfl) (fun x => by kernel_rfl)
theorem v7t : vae Try.prog 88 v5i :=
  vbx G10_ok.shallow follows (Try.f88.body.getD .skip) Try.func88 (by kernel_rfl) fun p q => ⟨vkl, (n22n_p _ _).p.map _, by rw [vyr]; kernel_rfl, vad (ids := [0, 2]) (by kernel_rfl) (by kernel_rfl) ⟨v18, ⟨v3l, trivial⟩⟩⟩
def G11 : Glob := G10.add 88 v5i
theorem G11_ok : GlobOk Try.prog G11 := G10_ok.add ⟨Try.f88, Try.func88, by kernel_rfl, by kernel_rfl⟩ v7t
def vto : q26T → List AV := fun x => [.bp 0 0, .own 1, .i x.1]
def vuh : q26T → St := fun x => [.box [.lst (.int .u8) x.2.1, .i x.2.2.1, .i x.2.2.2.1], .arr tWrite x.2.2.2.2]
def vor : Nat → Option LoopSpec
  | 0 => some (lpS [0, 3, 4] [] [.bp 0 0, .own 1, .i] [.box [.lst (.int .u8), .i, .i], .arr tWrite] vip (fun p q => (p.2.2.1, q.1.1, q.1.2.1, q.1.2.2.1, q.2.1)) (fun k => (onE (exZ (.exit 0) vto vuh) k)))
  | _ => none
theorem v2c : LpAt G11.shallow ⟨1, 17, vor⟩ Try.f122 0 :=
  va9 rfl (fun x => (n33n_bp0 x).p) vto vuh (exZ (.exit 0) vto vuh) (fun _ _ => ⟨rfl, rfl⟩) (fun z => by (intro h; cases h)) (fun _ _ => rfl) (fun x => by kernel_rfl)
theorem v78 : vae Try.prog 122 v4x :=
  vbx G11_ok.shallow follows (Try.f122.body.getD .skip) Try.func122 (by kernel_rfl) fun p q => ⟨vor, (n33n_p _ _ _).p.map _, by rw [v0b]; kernel_rfl, vad (ids := [0]) (by kernel_rfl) (by kernel_rfl) ⟨v2c, trivial⟩⟩
def G12 : Glob := G11.add 122 v4x
theorem G12_ok : GlobOk Try.prog G12 := G11_ok.add ⟨Try.f122, Try.func122, by kernel_rfl, by kernel_rfl⟩ v78
def vx9 : Nat → Option LoopSpec
  | 1000011 => some ⟨[0], [], fun _ _ _ => none⟩
  | _ => none
theorem v8l : vae Try.prog 112 v4j :=
  vbx G12_ok.shallow follows (Try.f112.body.getD .skip) Try.func112 (by kernel_rfl) fun p q => ⟨vx9, (n37n_p _ _ _).p.map _, by rw [v1i]; kernel_rfl, vad (ids := []) (by kernel_rfl) (by kernel_rfl) trivial⟩
def G13 : Glob := G12.add 112 v4j
theorem G13_ok : GlobOk Try.prog G13 := G12_ok.add ⟨Try.f112, Try.func112, by kernel_rfl, by kernel_rfl⟩ v8l
def vxw : Nat → Option LoopSpec
  | _ => none
theorem v7u : vae Try.prog 52 v5h :=
  vbx G13_ok.shallow follows (Try.f52.body.getD .skip) Try.func52 (by kernel_rfl) fun p q => ⟨vxw, (n16n_p _).p.map _, by rw [v0c]; kernel_rfl, vad (ids := []) (by kernel_rfl) (by kernel_rfl) trivial⟩
def G14 : Glob := G13.add 52 v5h
theorem G14_ok : GlobOk Try.prog G14 := G13_ok.add ⟨Try.f52, Try.func52, by kernel_rfl, by kernel_rfl⟩ v7u
def ve0 : q17T → List AV := fun x => [.lst tWrite x.1, .i x.2.1, .own 0, .i x.2.2.1, .bp 1 0, .own 2, .i x.2.2.2.1]
def ve6 : q17T → St := fun x => let xh := x.2.2.2.2.2.2.2.2; [.arr tVersion x.2.2.2.2.1, .box [.str x.2.2.2.2.2.1, .str x.2.2.2.2.2.2.1, .bool x.2.2.2.2.2.2.2.1, .i xh.1], .arr tVersion xh.2]
def vuu : q17T → List AV := fun x => [.lst tWrite x.1, .i x.2.1, .own 0, .i x.2.2.1, .bp 1 0, .own 2, .i x.2.2.2.1]
def vst : q17T → St := fun x => let xh := x.2.2.2.2.2.2.2.2; [.arr tVersion x.2.2.2.2.1, .box [.str x.2.2.2.2.2.1, .str x.2.2.2.2.2.2.1, .bool x.2.2.2.2.2.2.2.1, .i xh.1], .arr tVersion xh.2]
def vuq : q16T → List AV := fun x => [.lst tWrite x.1, .i x.2.1, .own 0, .i x.2.2.1]
def vsx : q16T → St := fun x => [.arr tVersion x.2.2.2]
def vhx : Nat → Option LoopSpec
  | 6000003 => some (ctS [1, 2, 7, 8, 9, 10, 11] [] [.lst tWrite, .i, .own 0, .i, .bp 1 0, .own 2, .i] [.arr tVersion, .box [.str, .str, .bool, .i], .arr tVersion] vb9 (fun p q => (p.1, p.2.1, p.2.2.2.1, p.2.2.2.2.2.2.1, q.1, q.2.1.1, q.2.1.2.1, q.2.1.2.2.1, q.2.1.2.2.2.1, q.2.2.1)) (fun k => (onE (exZ .norm ve0 ve6) k)))
  | 2 => some (lpS [1, 2, 7, 8, 9, 10, 11] [] [.lst tWrite, .i, .own 0, .i, .bp 1 0, .own 2, .i] [.arr tVersion, .box [.str, .str, .bool, .i], .arr tVersion] vi0 (fun p q => (p.1, p.2.1, p.2.2.2.1, p.2.2.2.2.2.2.1, q.1, q.2.1.1, q.2.1.2.1, q.2.1.2.2.1, q.2.1.2.2.2.1, q.2.2.1)) (fun k => (onE (exZ (.exit 2) vuu vst) k)))
  | 0 => some (lpS [1, 2, 7, 8] [] [.lst tWrite, .i, .own 0, .i] [.arr tVersion] vis (fun p q => (p.1, p.2.1, p.2.2.2.1, q.1)) (fun k => (onE (exZ (.exit 0) vuq vsx) k)))
  | 2000008 => some ⟨[0, 2, 4, 6, 8, 10, 12, 14, 16, 18, 20, 22, 24, 26, 28, 30, 32, 34, 36, 38, 40, 42, 44, 46, 48, 50, 52, 54, 56, 58, 60, 62, 64, 66], [], fun _ _ _ => none⟩
  | _ => none
theorem vnd : CtAt G14.shallow ⟨0, 93, vhx⟩ Try.f13 6000003 :=
  v4s rfl (fun x => (n21n_jp6000003 x).p) ve0 ve6 (exZ .norm ve0 ve6) (fun _ _ => ⟨rfl, rfl⟩) (fun _ _ => rfl) (fun x => by kernel_rfl)
theorem v3m : LpAt G14.shallow ⟨0, 93, vhx⟩ Try.f13 2 :=
  va9 rfl (fun x => (n21n_bp2 x).p) vuu vst (exZ (.exit 2) vuu vst) (fun _ _ => ⟨rfl, rfl⟩) (fun z => by (intro h; cases h)) (fun _ _ => rfl) (fun x => by kernel_rfl)
theorem v2u : LpAt G14.shallow ⟨0, 93, vhx⟩ Try.f13 0 :=
  va9 rfl (fun x => (n21n_bp0 x).p) vuq vsx (exZ (.exit 0) vuq vsx) (fun _ _ => ⟨rfl, rfl⟩) (fun z => by (intro h; cases h)) (fun _ _ => rfl) (fun x => by kernel_rfl)
theorem v7g : vae Try.prog 13 v4o :=
  vbx G14_ok.shallow follows (Try.f13.body.getD .skip) Try.func13 (by kernel_rfl) fun p q => ⟨vhx, (n21n_p _ _ _).p.map _, by rw [vyk]; kernel_rfl, vad (ids := [6000003, 2, 0]) (by kernel_rfl) (by kernel_rfl) ⟨vnd, ⟨v3m, ⟨v2u, trivial⟩⟩⟩⟩
def G15 : Glob := G14.add 13 v4o
theorem G15_ok : GlobOk Try.prog G15 := G14_ok.add ⟨Try.f13, Try.func13, by kernel_rfl, by kernel_rfl⟩ v7g
def vus : q25T → List AV := fun x => [.bp 0 0, .own 1, .i x.1]
def vtt : q25T → St := fun x => [.box [.lst (.int .u8) x.2.1, .i x.2.2.1, .i x.2.2.2.1], .arr tVersion x.2.2.2.2]
def vnv : Nat → Option LoopSpec
  | 0 => some (lpS [0, 3, 4] [] [.bp 0 0, .own 1, .i] [.box [.lst (.int .u8), .i, .i], .arr tVersion] vi5 (fun p q => (p.2.2.1, q.1.1, q.1.2.1, q.1.2.2.1, q.2.1)) (fun k => (onE (exZ (.exit 0) vus vtt) k)))
  | _ => none
theorem v39 : LpAt G15.shallow ⟨1, 19, vnv⟩ Try.f114 0 :=
  va9 rfl (fun x => (n36n_bp0 x).p) vus vtt (exZ (.exit 0) vus vtt) (fun _ _ => ⟨rfl, rfl⟩) (fun z => by (intro h; cases h)) (fun _ _ => rfl) (fun x => by kernel_rfl)
theorem v8r : vae Try.prog 114 v48 :=
  vbx G15_ok.shallow follows (Try.f114.body.getD .skip) Try.func114 (by kernel_rfl) fun p q => ⟨vnv, (n36n_p _ _ _).p.map _, by rw [v0g]; kernel_rfl, vad (ids := [0]) (by kernel_rfl) (by kernel_rfl) ⟨v39, trivial⟩⟩
def G16 : Glob := G15.add 114 v48
theorem G16_ok : GlobOk Try.prog G16 := G15_ok.add ⟨Try.f114, Try.func114, by kernel_rfl, by kernel_rfl⟩ v8r
def vxs : Nat → Option LoopSpec
  | _ => none
theorem v7r : vae Try.prog 53 v4y :=
  vbx G16_ok.shallow follows (Try.f53.body.getD .skip) Try.func53 (by kernel_rfl) fun p q => ⟨vxs, (n17n_p _).p.map _, by rw [v0t]; kernel_rfl, vad (ids := []) (by kernel_rfl) (by kernel_rfl) trivial⟩
def G17 : Glob := G16.add 53 v4y
theorem G17_ok : GlobOk Try.prog G17 := G16_ok.add ⟨Try.f53, Try.func53, by kernel_rfl, by kernel_rfl⟩ v7r
def vx2 : Nat → Option LoopSpec
  | _ => none
theorem v7d : vae Try.prog 55 v4c :=
  vbx G17_ok follows (Try.f55.body.getD .skip) Try.func55 (by kernel_rfl) fun p q => ⟨vx2, n10n_p.p.map _, by rw [vy9]; kernel_rfl, vad (ids := []) (by kernel_rfl) (by kernel_rfl) trivial⟩
def G18 : Glob := G17.add 55 v4c
theorem G18_ok : GlobOk Try.prog G18 := G17_ok.add ⟨Try.f55, Try.func55, by kernel_rfl, by kernel_rfl⟩ v7d
theorem vh7 : vae Try.prog 116 vce := by
  intro args s k r hk
  unfold vce at hk
  rw [vwt] at hk
  unfold vop at hk
  have e : Try.laysSort_ren.f 190 = 116 := by kernel_rfl
  exact e ▸ vp9 Try.laysSort args s k r hk
def G19 : Glob := G18.add 116 vce
theorem G19_ok : GlobOk Try.prog G19 := G18_ok.add ⟨Try.f116, Try.func116, by kernel_rfl, by kernel_rfl⟩ vh7
def vtq : (Int × Nat × Int × (List ByteArray)) → List AV := fun x => [.own 0, .i x.1, .win 0 x.2.1, .i x.2.2.1]
def vsy : (Int × Nat × Int × (List ByteArray)) → St := fun x => [.arr .str x.2.2.2]
def vup : q23T → List AV := fun x => [.own 0, .own 1, .i x.1]
def vs6 : q23T → St := fun x => [.arr .str x.2.1, .arr .str x.2.2]
def vvy : (Int × (List ByteArray)) → Out × List AV × St := fun z => (.ret, [.own 0, .own 1, .i z.1], [.gone, .arr .str z.2])
def vj4 : Nat → Option LoopSpec
  | 2 => some (lpS [0, 3, 4, 5] [] [.own 0, .i, .win 0, .i] [.arr .str] vfv (fun p q => (p.2.1, p.2.2.1, p.2.2.2.1, q.1)) (fun k => (onE (exZ (.exit 2) vtq vsy) k)))
  | 0 => some (lpS [0, 2, 3] [none, some .str] [.own 0, .own 1, .i] [.arr .str, .arr .str] vez (fun p q => (p.2.2.1, q.1, q.2.1)) (fun k => (Sum.elim (onE (exZ (.exit 0) vup vs6) k) (onE vvy k))))
  | 2000006 => some ⟨[0, 2, 4, 6, 8, 10, 12, 14, 16, 18], [], fun _ _ _ => none⟩
  | 2000011 => some ⟨[0, 2, 4, 6, 8, 10, 12, 14, 16, 18], [], fun _ _ _ => none⟩
  | _ => none
theorem v2z : LpAt G19 ⟨1, 61, vj4⟩ Try.f117 2 :=
  va9 rfl (fun x => (n13n_bp2 x).p) vtq vsy (exZ (.exit 2) vtq vsy) (fun _ _ => ⟨rfl, rfl⟩) (fun z => by (intro h; cases h)) (fun _ _ => rfl) (fun x => by kernel_rfl)
theorem v2i : LpAt G19 ⟨1, 61, vj4⟩ Try.f117 0 :=
  va9 rfl (fun x => (n13n_bp0 x).p) vup vs6 (Sum.elim ((exZ (.exit 0) vup vs6)) (vvy)) (fun _ _ => ⟨rfl, rfl⟩) (fun z => by rcases z with z | z <;> (intro h; cases h)) (fun k z => by rcases z with z | z <;> rfl) (fun x => by kernel_rfl)
theorem vf8 : vae Try.prog 117 vcy :=
  vbx G19_ok follows (Try.f117.body.getD .skip) Try.func117 (by kernel_rfl) fun p q => ⟨vj4, (n13n_p _).p.map2 _ _, by rw [vzi]; kernel_rfl, vad (ids := [2, 0]) (by kernel_rfl) (by kernel_rfl) ⟨v2z, ⟨v2i, trivial⟩⟩⟩
def G20 : Glob := G19.add 117 vcy
theorem G20_ok : GlobOk Try.prog G20 := G19_ok.add ⟨Try.f117, Try.func117, by kernel_rfl, by kernel_rfl⟩ vf8
def vui : q10T → List AV := fun x => [.own 0, .lst tVersion x.1, .i x.2.1, .i x.2.2.1]
def vum : q10T → St := fun x => [.arr .str x.2.2.2]
def vo0 : Nat → Option LoopSpec
  | 0 => some (lpS [3, 6, 7, 8] [some .str] [.own 0, .lst tVersion, .i, .i] [.arr .str] vg7 (fun p q => (p.2.1, p.2.2.1, p.2.2.2.1, q.1)) (fun k => (onE (exZ (.exit 0) vui vum) k)))
  | _ => none
theorem v3d : LpAt G20 ⟨0, 22, vo0⟩ Try.f115 0 :=
  va9 rfl (fun x => (n05n_bp0 x).p) vui vum (exZ (.exit 0) vui vum) (fun _ _ => ⟨rfl, rfl⟩) (fun z => by (intro h; cases h)) (fun _ _ => rfl) (fun x => by kernel_rfl)
theorem v8e : vae Try.prog 115 v4w :=
  vbx G20_ok follows (Try.f115.body.getD .skip) Try.func115 (by kernel_rfl) fun p q => ⟨vo0, (n05n_p _).p.map _, by rw [vz9]; kernel_rfl, vad (ids := [0]) (by kernel_rfl) (by kernel_rfl) ⟨v3d, trivial⟩⟩
def G21 : Glob := G20.add 115 v4w
theorem G21_ok : GlobOk Try.prog G21 := G20_ok.add ⟨Try.f115, Try.func115, by kernel_rfl, by kernel_rfl⟩ v8e
def vxl : Nat → Option LoopSpec
  | _ => none
theorem v8k : vae Try.prog 163 v4l :=
  vbx G21_ok follows (Try.f163.body.getD .skip) Try.func163 (by kernel_rfl) fun p q => ⟨vxl, (n08n_p _ _).p.map _, by rw [v0s]; kernel_rfl, vad (ids := []) (by kernel_rfl) (by kernel_rfl) trivial⟩
def G22 : Glob := G21.add 163 v4l
theorem G22_ok : GlobOk Try.prog G22 := G21_ok.add ⟨Try.f163, Try.func163, by kernel_rfl, by kernel_rfl⟩ v8k
def vmx : q18T → List AV := fun x => [.lst tWrite x.1, .fn 163 [.bp 0 0], .i x.2.1, .i x.2.2.1, .i x.2.2.2.1]
def vmt : q18T → St := fun x => [.box [.str x.2.2.2.2]]
def voy : Nat → Option LoopSpec
  | 0 => some (lpS [0, 1, 4, 7, 8] [] [.lst tWrite, .fn 163 [.bp 0 0], .i, .i, .i] [.box [.str]] vgp (fun p q => (p.1, p.2.2.1, p.2.2.2.1, p.2.2.2.2.1, q.1.1)) (fun k => (Sum.elim (onE (exZ .ret vmx vmt) k) (onE (exZ (.exit 0) vmx vmt) k))))
  | _ => none
theorem v2s : LpAt G22 ⟨1, 19, voy⟩ Try.f162 0 :=
  va9 rfl (fun x => (n14n_bp0 x).p) vmx vmt (Sum.elim ((exZ .ret vmx vmt)) ((exZ (.exit 0) vmx vmt))) (fun _ _ => ⟨rfl, rfl⟩) (fun z => by rcases z with z | z <;> (intro h; cases h)) (fun k z => by rcases z with z | z <;> rfl) (fun x => by kernel_rfl)
theorem vfc : vae Try.prog 162 vcq :=
  vbx G22_ok follows (Try.f162.body.getD .skip) Try.func162 (by kernel_rfl) fun p q => ⟨voy, (n14n_p _ _).p.map _, by rw [vz3]; kernel_rfl, vad (ids := [0]) (by kernel_rfl) (by kernel_rfl) ⟨v2s, trivial⟩⟩
def G23 : Glob := G22.add 162 vcq
theorem G23_ok : GlobOk Try.prog G23 := G22_ok.add ⟨Try.f162, Try.func162, by kernel_rfl, by kernel_rfl⟩ vfc
def vw6 : Nat → Option LoopSpec
  | _ => none
theorem v7o : vae Try.prog 119 v49 :=
  vbx G23_ok follows (Try.f119.body.getD .skip) Try.func119 (by kernel_rfl) fun p q => ⟨vw6, (n07n_p _ _).p.map _, by rw [vze]; kernel_rfl, vad (ids := []) (by kernel_rfl) (by kernel_rfl) trivial⟩
def G24 : Glob := G23.add 119 v49
theorem G24_ok : GlobOk Try.prog G24 := G23_ok.add ⟨Try.f119, Try.func119, by kernel_rfl, by kernel_rfl⟩ v7o
def vuw : q6T → List AV := fun x => [.lst tVersion x.1, .str x.2.1, .i x.2.2.1, .i x.2.2.2.1, .lst tVersion x.2.2.2.2.1, .i x.2.2.2.2.2.1, .i x.2.2.2.2.2.2]
def vt7 : q6T → St := fun x => []
def vnl : Nat → Option LoopSpec
  | 0 => some (lpS [0, 1, 2, 7, 10, 11, 12] [] [.lst tVersion, .str, .i, .i, .lst tVersion, .i, .i] [] vg1 (fun p q => (p.1, p.2.1, p.2.2.1, p.2.2.2.1, p.2.2.2.2.1, p.2.2.2.2.2.1, p.2.2.2.2.2.2.1)) (fun k => (onE (exZ (.exit 0) vuw vt7) k)))
  | 2000005 => some ⟨[0, 2, 4, 6, 8, 10, 12, 14, 16, 18, 20, 22, 24, 26, 28, 30, 32, 34, 36, 38, 40, 42, 44, 46], [], fun _ _ _ => none⟩
  | _ => none
theorem v3k : LpAt G24 ⟨0, 44, vnl⟩ Try.f123 0 :=
  va9 rfl (fun x => (n06n_bp0 x).p) vuw vt7 (exZ (.exit 0) vuw vt7) (fun _ _ => ⟨rfl, rfl⟩) (fun z => by (intro h; cases h)) (fun _ _ => rfl) (fun x => by kernel_rfl)
theorem v64 : vae Try.prog 123 v4t :=
  vbx G24_ok follows (Try.f123.body.getD .skip) Try.func123 (by kernel_rfl) fun p q => ⟨vnl, (n06n_p _ _ _).p.map _, by rw [vz0]; kernel_rfl, vad (ids := [0]) (by kernel_rfl) (by kernel_rfl) ⟨v3k, trivial⟩⟩
def G25 : Glob := G24.add 123 v4t
theorem G25_ok : GlobOk Try.prog G25 := G24_ok.add ⟨Try.f123, Try.func123, by kernel_rfl, by kernel_rfl⟩ v64
def vyd : Nat → Option LoopSpec
  | _ => none
theorem v8c : vae Try.prog 61 v4h :=
  vbx G25_ok follows (Try.f61.body.getD .skip) Try.func61 (by kernel_rfl) fun p q => ⟨vyd, (n04n_p _ _ _).p.map _, by rw [vys]; kernel_rfl, vad (ids := []) (by kernel_rfl) (by kernel_rfl) trivial⟩
def G26 : Glob := G25.add 61 v4h
theorem G26_ok : GlobOk Try.prog G26 := G25_ok.add ⟨Try.f61, Try.func61, by kernel_rfl, by kernel_rfl⟩ v8c
def vxe : Nat → Option LoopSpec
  | _ => none
theorem v7m : vae Try.prog 56 v5e :=
  vbx G26_ok follows (Try.f56.body.getD .skip) Try.func56 (by kernel_rfl) fun p q => ⟨vxe, (n01n_p _ _ _).p.map _, by rw [vzk]; kernel_rfl, vad (ids := []) (by kernel_rfl) (by kernel_rfl) trivial⟩
def G27 : Glob := G26.add 56 v5e
theorem G27_ok : GlobOk Try.prog G27 := G26_ok.add ⟨Try.f56, Try.func56, by kernel_rfl, by kernel_rfl⟩ v7m
def vxx : Nat → Option LoopSpec
  | _ => none
theorem v8p : vae Try.prog 118 v4b :=
  vbx G27_ok follows (Try.f118.body.getD .skip) Try.func118 (by kernel_rfl) fun p q => ⟨vxx, (n00n_p _ _).p.map _, by rw [vyq]; kernel_rfl, vad (ids := []) (by kernel_rfl) (by kernel_rfl) trivial⟩
def G28 : Glob := G27.add 118 v4b
theorem G28_ok : GlobOk Try.prog G28 := G27_ok.add ⟨Try.f118, Try.func118, by kernel_rfl, by kernel_rfl⟩ v8p
def vtl : q4T → List AV := fun x => [.lst tVersion x.1, .bp 0 0, .bp 1 0, .own 2, .lst tWrite x.2.1, .i x.2.2.1, .i x.2.2.2.1]
def vtp : q4T → St := fun x => let xh := x.2.2.2.2.2.2.2.2; [.box [.i x.2.2.2.2.1, .i x.2.2.2.2.2.1, .i x.2.2.2.2.2.2.1, .i x.2.2.2.2.2.2.2.1, .lst tRange xh.1, .lst tWrite xh.2.1, .bool xh.2.2.1, .str xh.2.2.2.1], .box [.str xh.2.2.2.2.1, .str xh.2.2.2.2.2.1], .arr .str xh.2.2.2.2.2.2]
def vs8 : q14T → List AV := fun x => [.lst tVersion x.1, .bp 0 0, .bp 1 0, .own 2, .own 3, .i x.2.1, .i x.2.2.1]
def vtm : q14T → St := fun x => let xh := x.2.2.2.2.2.2.2.2; [.box [.i x.2.2.2.1, .i x.2.2.2.2.1, .i x.2.2.2.2.2.1, .i x.2.2.2.2.2.2.1, .lst tRange x.2.2.2.2.2.2.2.1, .lst tWrite xh.1, .bool xh.2.1, .str xh.2.2.1], .box [.str xh.2.2.2.1, .str xh.2.2.2.2.1], .arr tRange xh.2.2.2.2.2.1, .arr .str xh.2.2.2.2.2.2]
def vkk : Nat → Option LoopSpec
  | 0 => some (lpS [1, 3, 5, 7, 18, 19, 20] [] [.lst tVersion, .bp 0 0, .bp 1 0, .own 2, .lst tWrite, .i, .i] [.box [.i, .i, .i, .i, .lst tRange, .lst tWrite, .bool, .str], .box [.str, .str], .arr .str] vgw (fun p q => (p.1, p.2.2.2.2.1, p.2.2.2.2.2.1, p.2.2.2.2.2.2.1, q.1.1, q.1.2.1, q.1.2.2.1, q.1.2.2.2.1, q.1.2.2.2.2.1, q.1.2.2.2.2.2.1, q.1.2.2.2.2.2.2.1, q.1.2.2.2.2.2.2.2.1, q.2.1.1, q.2.1.2.1, q.2.2.1)) (fun k => (onE (exZ (.exit 0) vtl vtp) k)))
  | 2 => some (lpS [1, 3, 5, 10, 33, 34, 35] [none, none, none, some tRange] [.lst tVersion, .bp 0 0, .bp 1 0, .own 2, .own 3, .i, .i] [.box [.i, .i, .i, .i, .lst tRange, .lst tWrite, .bool, .str], .box [.str, .str], .arr tRange, .arr .str] vdr (fun p q => (p.1, p.2.2.2.2.2.1, p.2.2.2.2.2.2.1, q.1.1, q.1.2.1, q.1.2.2.1, q.1.2.2.2.1, q.1.2.2.2.2.1, q.1.2.2.2.2.2.1, q.1.2.2.2.2.2.2.1, q.1.2.2.2.2.2.2.2.1, q.2.1.1, q.2.1.2.1, q.2.2.1, q.2.2.2.1)) (fun k => (onE (exZ (.exit 2) vs8 vtm) k)))
  | _ => none
theorem v2k : LpAt G28 ⟨0, 60, vkk⟩ Try.f54 0 :=
  va9 rfl (fun x => (n02n_bp0 x).p) vtl vtp (exZ (.exit 0) vtl vtp) (fun _ _ => ⟨rfl, rfl⟩) (fun z => by (intro h; cases h)) (fun _ _ => rfl) (fun x => by kernel_rfl)
theorem v3n : LpAt G28 ⟨0, 60, vkk⟩ Try.f54 2 :=
  va9 rfl (fun x => (n02n_bp2 x).p) vs8 vtm (exZ (.exit 2) vs8 vtm) (fun _ _ => ⟨rfl, rfl⟩) (fun z => by (intro h; cases h)) (fun _ _ => rfl) (fun x => by kernel_rfl)
theorem v7p : vae Try.prog 54 v45 :=
  vbx G28_ok follows (Try.f54.body.getD .skip) Try.func54 (by kernel_rfl) fun p q => ⟨vkk, (n02n_p _ _ _).p.map _, by rw [vzp]; kernel_rfl, vad (ids := [0, 2]) (by kernel_rfl) (by kernel_rfl) ⟨v2k, ⟨v3n, trivial⟩⟩⟩
def G29 : Glob := G28.add 54 v45
theorem G29_ok : GlobOk Try.prog G29 := G28_ok.add ⟨Try.f54, Try.func54, by kernel_rfl, by kernel_rfl⟩ v7p
def vtr : q11T → List AV := fun x => [.lst tVersion x.1, .i x.2.1, .bp 0 0, .own 1, .own 2, .i x.2.2.1, .i x.2.2.2.1]
def vuc : q11T → St := fun x => [.box [.str x.2.2.2.2.1, .str x.2.2.2.2.2.1], .arr tRange x.2.2.2.2.2.2.1, .arr .str x.2.2.2.2.2.2.2]
def voo : Nat → Option LoopSpec
  | 0 => some (lpS [0, 2, 4, 7, 13, 14, 15] [none, none, none, some tRange] [.lst tVersion, .i, .bp 0 0, .own 1, .own 2, .i, .i] [.box [.str, .str], .arr tRange, .arr .str] vfz (fun p q => (p.1, p.2.1, p.2.2.2.2.2.1, p.2.2.2.2.2.2.1, q.1.1, q.1.2.1, q.2.1, q.2.2.1)) (fun k => (onE (exZ (.exit 0) vtr vuc) k)))
  | _ => none
theorem v33 : LpAt G29 ⟨0, 40, voo⟩ Try.f58 0 :=
  va9 rfl (fun x => (n03n_bp0 x).p) vtr vuc (exZ (.exit 0) vtr vuc) (fun _ _ => ⟨rfl, rfl⟩) (fun z => by (intro h; cases h)) (fun _ _ => rfl) (fun x => by kernel_rfl)
theorem v69 : vae Try.prog 58 v4i :=
  vbx G29_ok follows (Try.f58.body.getD .skip) Try.func58 (by kernel_rfl) fun p q => ⟨voo, (n03n_p _ _ _).p.map _, by rw [v0q]; kernel_rfl, vad (ids := [0]) (by kernel_rfl) (by kernel_rfl) ⟨v33, trivial⟩⟩
def G30 : Glob := G29.add 58 v4i
theorem G30_ok : GlobOk Try.prog G30 := G29_ok.add ⟨Try.f58, Try.func58, by kernel_rfl, by kernel_rfl⟩ v69
def vm6 : q3T → List AV := fun x => [.lst tRange x.1, .lst tRange x.2.1, .bool x.2.2.1, .i x.2.2.2]
def vls : q3T → St := fun x => []
def vow : Nat → Option LoopSpec
  | 0 => some (lpS [0, 1, 4, 5] [] [.lst tRange, .lst tRange, .bool, .i] [] vhb (fun p q => (p.1, p.2.1, p.2.2.1, p.2.2.2.1)) (fun k => (Sum.elim (onE (exZ .ret vm6 vls) k) (onE (exZ (.exit 0) vm6 vls) k))))
  | 2000006 => some ⟨[0, 2, 4, 6, 8, 10, 12, 14, 16], [], fun _ _ _ => none⟩
  | _ => none
theorem v2d : LpAt G30 ⟨0, 26, vow⟩ Try.f57 0 :=
  va9 rfl (fun x => (n12n_bp0 x).p) vm6 vls (Sum.elim ((exZ .ret vm6 vls)) ((exZ (.exit 0) vm6 vls))) (fun _ _ => ⟨rfl, rfl⟩) (fun z => by rcases z with z | z <;> (intro h; cases h)) (fun k z => by rcases z with z | z <;> rfl) (fun x => by kernel_rfl)
theorem v8t : vae Try.prog 57 v4e :=
  vbx G30_ok follows (Try.f57.body.getD .skip) Try.func57 (by kernel_rfl) fun p q => ⟨vow, (n12n_p _ _).p.map _, by rw [vyh]; kernel_rfl, vad (ids := [0]) (by kernel_rfl) (by kernel_rfl) ⟨v2d, trivial⟩⟩
def G31 : Glob := G30.add 57 v4e
theorem G31_ok : GlobOk Try.prog G31 := G30_ok.add ⟨Try.f57, Try.func57, by kernel_rfl, by kernel_rfl⟩ v8t
def vxf : Nat → Option LoopSpec
  | _ => none
theorem v70 : vae Try.prog 164 v4k :=
  vbx G31_ok.shallow follows (Try.f164.body.getD .skip) Try.func164 (by kernel_rfl) fun p q => ⟨vxf, (n18n_p _ _).p.map _, by rw [v0j]; kernel_rfl, vad (ids := []) (by kernel_rfl) (by kernel_rfl) trivial⟩
def G32 : Glob := G31.add 164 v4k
theorem G32_ok : GlobOk Try.prog G32 := G31_ok.add ⟨Try.f164, Try.func164, by kernel_rfl, by kernel_rfl⟩ v70
def vur : q9T → List AV := fun x => [.lst tVersion x.1, .bp 0 0, .own 1, .i x.2.1, .str x.2.2.1, .own 2, .i x.2.2.2.1]
def vtd : q9T → St := fun x => [.box [.str x.2.2.2.2.1, .str x.2.2.2.2.2.1], .arr .str x.2.2.2.2.2.2.1, .arr .str x.2.2.2.2.2.2.2]
def vtj : q9T → List AV := fun x => [.lst tVersion x.1, .bp 0 0, .own 1, .i x.2.1, .str x.2.2.1, .own 2, .i x.2.2.2.1]
def vs7 : q9T → St := fun x => [.box [.str x.2.2.2.2.1, .str x.2.2.2.2.2.1], .arr .str x.2.2.2.2.2.2.1, .arr .str x.2.2.2.2.2.2.2]
def vts : q8T → List AV := fun x => [.lst tVersion x.1, .bp 0 0, .own 1, .i x.2.1]
def vta : q8T → St := fun x => [.box [.str x.2.2.1, .str x.2.2.2.1], .arr .str x.2.2.2.2]
def vhz : Nat → Option LoopSpec
  | 2 => some (lpS [0, 3, 5, 6, 7, 8, 9] [] [.lst tVersion, .bp 0 0, .own 1, .i, .str, .own 2, .i] [.box [.str, .str], .arr .str, .arr .str] vgr (fun p q => (p.1, p.2.2.2.1, p.2.2.2.2.1, p.2.2.2.2.2.2.1, q.1.1, q.1.2.1, q.2.1, q.2.2.1)) (fun k => (onE (exZ (.exit 2) vur vtd) k)))
  | 4 => some (lpS [0, 3, 5, 6, 7, 8, 10] [] [.lst tVersion, .bp 0 0, .own 1, .i, .str, .own 2, .i] [.box [.str, .str], .arr .str, .arr .str] vgq (fun p q => (p.1, p.2.2.2.1, p.2.2.2.2.1, p.2.2.2.2.2.2.1, q.1.1, q.1.2.1, q.2.1, q.2.2.1)) (fun k => (onE (exZ (.exit 4) vtj vs7) k)))
  | 0 => some (lpS [0, 3, 5, 6] [] [.lst tVersion, .bp 0 0, .own 1, .i] [.box [.str, .str], .arr .str] vhc (fun p q => (p.1, p.2.2.2.1, q.1.1, q.1.2.1, q.2.1)) (fun k => (onE (exZ (.exit 0) vts vta) k)))
  | _ => none
theorem v38 : LpAt G32.shallow ⟨0, 72, vhz⟩ Try.f120 2 :=
  va9 rfl (fun x => (n35n_bp2 x).p) vur vtd (exZ (.exit 2) vur vtd) (fun _ _ => ⟨rfl, rfl⟩) (fun z => by (intro h; cases h)) (fun _ _ => rfl) (fun x => by kernel_rfl)
theorem v1u : LpAt G32.shallow ⟨0, 72, vhz⟩ Try.f120 4 :=
  va9 rfl (fun x => (n35n_bp4 x).p) vtj vs7 (exZ (.exit 4) vtj vs7) (fun _ _ => ⟨rfl, rfl⟩) (fun z => by (intro h; cases h)) (fun _ _ => rfl) (fun x => by kernel_rfl)
theorem v13 : LpAt G32.shallow ⟨0, 72, vhz⟩ Try.f120 0 :=
  va9 rfl (fun x => (n35n_bp0 x).p) vts vta (exZ (.exit 0) vts vta) (fun _ _ => ⟨rfl, rfl⟩) (fun z => by (intro h; cases h)) (fun _ _ => rfl) (fun x => by kernel_rfl)
theorem v65 : vae Try.prog 120 v4m :=
  vbx G32_ok.shallow follows (Try.f120.body.getD .skip) Try.func120 (by kernel_rfl) fun p q => ⟨vhz, (n35n_p _ _).p.map _, by rw [v0u]; kernel_rfl, vad (ids := [2, 4, 0]) (by kernel_rfl) (by kernel_rfl) ⟨v38, ⟨v1u, ⟨v13, trivial⟩⟩⟩⟩
def G33 : Glob := G32.add 120 v4m
theorem G33_ok : GlobOk Try.prog G33 := G32_ok.add ⟨Try.f120, Try.func120, by kernel_rfl, by kernel_rfl⟩ v65
def vud : q7T → List AV := fun x => [.lst tVersion x.1, .str x.2.1, .i x.2.2.1, .i x.2.2.2.1, .i x.2.2.2.2]
def vuk : q7T → St := fun x => []
def vo1 : Nat → Option LoopSpec
  | 0 => some (lpS [0, 1, 2, 7, 8] [] [.lst tVersion, .str, .i, .i, .i] [] vg4 (fun p q => (p.1, p.2.1, p.2.2.1, p.2.2.2.1, p.2.2.2.2.1)) (fun k => (onE (exZ (.exit 0) vud vuk) k)))
  | 2000005 => some ⟨[0, 2, 4, 6, 8, 10, 12, 14, 16, 18, 20, 22, 24, 26, 28, 30, 32, 34, 36, 38, 40, 42, 44, 46, 48, 50, 52, 54, 56, 58, 60, 62, 64], [], fun _ _ _ => none⟩
  | _ => none
theorem v3z : LpAt G33.shallow ⟨0, 50, vo1⟩ Try.f127 0 :=
  va9 rfl (fun x => (n34n_bp0 x).p) vud vuk (exZ (.exit 0) vud vuk) (fun _ _ => ⟨rfl, rfl⟩) (fun z => by (intro h; cases h)) (fun _ _ => rfl) (fun x => by kernel_rfl)
theorem v8v : vae Try.prog 127 v4q :=
  vbx G33_ok.shallow follows (Try.f127.body.getD .skip) Try.func127 (by kernel_rfl) fun p q => ⟨vo1, (n34n_p _ _ _).p.map _, by rw [v0e]; kernel_rfl, vad (ids := [0]) (by kernel_rfl) (by kernel_rfl) ⟨v3z, trivial⟩⟩
def G34 : Glob := G33.add 127 v4q
theorem G34_ok : GlobOk Try.prog G34 := G33_ok.add ⟨Try.f127, Try.func127, by kernel_rfl, by kernel_rfl⟩ v8v
def vxm : Nat → Option LoopSpec
  | _ => none
theorem v8j : vae Try.prog 63 v4r :=
  vbx G34_ok.shallow follows (Try.f63.body.getD .skip) Try.func63 (by kernel_rfl) fun p q => ⟨vxm, (n23n_p _ _ _).p.map _, by rw [vy1]; kernel_rfl, vad (ids := []) (by kernel_rfl) (by kernel_rfl) trivial⟩
def G35 : Glob := G34.add 63 v4r
theorem G35_ok : GlobOk Try.prog G35 := G34_ok.add ⟨Try.f63, Try.func63, by kernel_rfl, by kernel_rfl⟩ v8j
def vl5 : q5T → List AV := fun x => [.lst tVersion x.1, .str x.2.1, .bp 0 0, .str x.2.2.1, .bool x.2.2.2.1, .i x.2.2.2.2.1]
def vm9 : q5T → St := fun x => let xh := x.2.2.2.2.2.2.2.2; [.box [.i x.2.2.2.2.2.1, .i x.2.2.2.2.2.2.1, .i x.2.2.2.2.2.2.2.1, .i xh.1, .lst tRange xh.2.1, .lst tWrite xh.2.2.1, .bool xh.2.2.2.1, .str xh.2.2.2.2]]
def vo4 : Nat → Option LoopSpec
  | 0 => some (lpS [1, 2, 3, 6, 7, 8] [] [.lst tVersion, .str, .bp 0 0, .str, .bool, .i] [.box [.i, .i, .i, .i, .lst tRange, .lst tWrite, .bool, .str]] vg2 (fun p q => (p.1, p.2.1, p.2.2.2.1, p.2.2.2.2.1, p.2.2.2.2.2.1, q.1.1, q.1.2.1, q.1.2.2.1, q.1.2.2.2.1, q.1.2.2.2.2.1, q.1.2.2.2.2.2.1, q.1.2.2.2.2.2.2.1, q.1.2.2.2.2.2.2.2.1)) (fun k => (Sum.elim (onE (exZ .ret vl5 vm9) k) (onE (exZ (.exit 0) vl5 vm9) k))))
  | _ => none
theorem v15 : LpAt G35.shallow ⟨0, 43, vo4⟩ Try.f121 0 :=
  va9 rfl (fun x => (n19n_bp0 x).p) vl5 vm9 (Sum.elim ((exZ .ret vl5 vm9)) ((exZ (.exit 0) vl5 vm9))) (fun _ _ => ⟨rfl, rfl⟩) (fun z => by rcases z with z | z <;> (intro h; cases h)) (fun k z => by rcases z with z | z <;> rfl) (fun x => by kernel_rfl)
theorem v7n : vae Try.prog 121 v5f :=
  vbx G35_ok.shallow follows (Try.f121.body.getD .skip) Try.func121 (by kernel_rfl) fun p q => ⟨vo4, (n19n_p _ _ _).p.map _, by rw [v0f]; kernel_rfl, vad (ids := [0]) (by kernel_rfl) (by kernel_rfl) ⟨v15, trivial⟩⟩
def G36 : Glob := G35.add 121 v5f
theorem G36_ok : GlobOk Try.prog G36 := G35_ok.add ⟨Try.f121, Try.func121, by kernel_rfl, by kernel_rfl⟩ v7n
def vtn : q13T → List AV := fun x => [.lst tVersion x.1, .bp 0 0, .bp 1 0, .own 2, .i x.2.1]
def vtu : q13T → St := fun x => let xh := x.2.2.2.2.2.2.2.2; [.box [.i x.2.2.1, .i x.2.2.2.1, .i x.2.2.2.2.1, .i x.2.2.2.2.2.1, .lst tRange x.2.2.2.2.2.2.1, .lst tWrite x.2.2.2.2.2.2.2.1, .bool xh.1, .str xh.2.1], .box [.str xh.2.2.1, .str xh.2.2.2.1], .arr tVersion xh.2.2.2.2]
def vt0 : q12T → List AV := fun x => [.lst tVersion x.1, .bp 0 0, .own 1, .own 2, .i x.2.1]
def vs3 : q12T → St := fun x => let xh := x.2.2.2.2.2.2.2.2; [.box [.i x.2.2.1, .i x.2.2.2.1, .i x.2.2.2.2.1, .i x.2.2.2.2.2.1, .lst tRange x.2.2.2.2.2.2.1, .lst tWrite x.2.2.2.2.2.2.2.1, .bool xh.1, .str xh.2.1], .arr tRange xh.2.2.1, .arr .str xh.2.2.2]
def vj9 : Nat → Option LoopSpec
  | 0 => some (lpS [1, 3, 5, 7, 8] [] [.lst tVersion, .bp 0 0, .bp 1 0, .own 2, .i] [.box [.i, .i, .i, .i, .lst tRange, .lst tWrite, .bool, .str], .box [.str, .str], .arr tVersion] vho (fun p q => (p.1, p.2.2.2.2.1, q.1.1, q.1.2.1, q.1.2.2.1, q.1.2.2.2.1, q.1.2.2.2.2.1, q.1.2.2.2.2.2.1, q.1.2.2.2.2.2.2.1, q.1.2.2.2.2.2.2.2.1, q.2.1.1, q.2.1.2.1, q.2.2.1)) (fun k => (onE (exZ (.exit 0) vtn vtu) k)))
  | 2 => some (lpS [1, 3, 9, 10, 11] [] [.lst tVersion, .bp 0 0, .own 1, .own 2, .i] [.box [.i, .i, .i, .i, .lst tRange, .lst tWrite, .bool, .str], .arr tRange, .arr .str] vga (fun p q => (p.1, p.2.2.2.2.1, q.1.1, q.1.2.1, q.1.2.2.1, q.1.2.2.2.1, q.1.2.2.2.2.1, q.1.2.2.2.2.2.1, q.1.2.2.2.2.2.2.1, q.1.2.2.2.2.2.2.2.1, q.2.1, q.2.2.1)) (fun k => (onE (exZ (.exit 2) vt0 vs3) k)))
  | 2000011 => some ⟨[0, 2, 4, 6, 8, 10, 12, 14, 16, 18, 20, 22], [], fun _ _ _ => none⟩
  | _ => none
theorem v16 : LpAt G36.shallow ⟨0, 65, vj9⟩ Try.f59 0 :=
  va9 rfl (fun x => (n20n_bp0 x).p) vtn vtu (exZ (.exit 0) vtn vtu) (fun _ _ => ⟨rfl, rfl⟩) (fun z => by (intro h; cases h)) (fun _ _ => rfl) (fun x => by kernel_rfl)
theorem v37 : LpAt G36.shallow ⟨0, 65, vj9⟩ Try.f59 2 :=
  va9 rfl (fun x => (n20n_bp2 x).p) vt0 vs3 (exZ (.exit 2) vt0 vs3) (fun _ _ => ⟨rfl, rfl⟩) (fun z => by (intro h; cases h)) (fun _ _ => rfl) (fun x => by kernel_rfl)
theorem v8n : vae Try.prog 59 v4p :=
  vbx G36_ok.shallow follows (Try.f59.body.getD .skip) Try.func59 (by kernel_rfl) fun p q => ⟨vj9, (n20n_p _ _ _).p.map _, by rw [v02]; kernel_rfl, vad (ids := [0, 2]) (by kernel_rfl) (by kernel_rfl) ⟨v16, ⟨v37, trivial⟩⟩⟩
def G37 : Glob := G36.add 59 v4p
theorem G37_ok : GlobOk Try.prog G37 := G36_ok.add ⟨Try.f59, Try.func59, by kernel_rfl, by kernel_rfl⟩ v8n
def vl8 : q19T → List AV := fun x => [.bool x.1, .bp 0 0, .own 1, .own 2, .i x.2.1]
def vlp : q19T → St := fun x => let xh := x.2.2.2.2.2.2.2.2; [.box [.i x.2.2.1, .i x.2.2.2.1, .i x.2.2.2.2.1, .i x.2.2.2.2.2.1, .own 3, .own 4, .bool x.2.2.2.2.2.2.1, .str x.2.2.2.2.2.2.2.1], .arr tVersion xh.1, .arr tRange xh.2.1, .arr tRange xh.2.2.1, .arr tWrite xh.2.2.2]
def vl4 : q19T → List AV := fun x => [.bool x.1, .bp 0 0, .own 1, .own 2, .i x.2.1]
def vmu : q19T → St := fun x => let xh := x.2.2.2.2.2.2.2.2; [.box [.i x.2.2.1, .i x.2.2.2.1, .i x.2.2.2.2.1, .i x.2.2.2.2.2.1, .own 3, .own 4, .bool x.2.2.2.2.2.2.1, .str x.2.2.2.2.2.2.2.1], .arr tVersion xh.1, .arr tRange xh.2.1, .arr tRange xh.2.2.1, .arr tWrite xh.2.2.2]
def vke : Nat → Option LoopSpec
  | 0 => some (lpS [2, 3, 4, 5, 6] [] [.bool, .bp 0 0, .own 1, .own 2, .i] [.box [.i, .i, .i, .i, .own 3, .own 4, .bool, .str], .arr tVersion, .arr tRange, .arr tRange, .arr tWrite] vf5 (fun p q => (p.1, p.2.2.2.2.1, q.1.1, q.1.2.1, q.1.2.2.1, q.1.2.2.2.1, q.1.2.2.2.2.2.2.1, q.1.2.2.2.2.2.2.2.1, q.2.1, q.2.2.1, q.2.2.2.1, q.2.2.2.2.1)) (fun k => (Sum.elim (onE (exZ .ret vl8 vlp) k) (onE (exZ (.exit 0) vl8 vlp) k))))
  | 2 => some (lpS [2, 3, 4, 5, 9] [] [.bool, .bp 0 0, .own 1, .own 2, .i] [.box [.i, .i, .i, .i, .own 3, .own 4, .bool, .str], .arr tVersion, .arr tRange, .arr tRange, .arr tWrite] vfq (fun p q => (p.1, p.2.2.2.2.1, q.1.1, q.1.2.1, q.1.2.2.1, q.1.2.2.2.1, q.1.2.2.2.2.2.2.1, q.1.2.2.2.2.2.2.2.1, q.2.1, q.2.2.1, q.2.2.2.1, q.2.2.2.2.1)) (fun k => (Sum.elim (onE (exZ .ret vl4 vmu) k) (onE (exZ (.exit 2) vl4 vmu) k))))
  | 2000009 => some ⟨[0, 2, 4, 6, 8, 10, 12, 14, 17, 18, 20, 22, 24, 26], [], fun _ _ _ => none⟩
  | 2000015 => some ⟨[0, 2, 4, 6, 8, 10, 12, 14, 16, 18, 20, 22, 24], [], fun _ _ _ => none⟩
  | 2000016 => some ⟨[0, 2, 4, 6, 8, 10, 12, 14, 16, 18, 20, 22, 24, 26, 28, 30, 32, 34, 36, 38, 40, 42, 44, 46, 48, 50, 52, 54, 56], [], fun _ _ _ => none⟩
  | 2000020 => some ⟨[0, 2, 8, 12, 14, 5, 7, 11, 17, 19, 20, 22, 24, 26, 28, 31, 33, 34, 36, 38, 40], [], fun _ _ _ => none⟩
  | _ => none
theorem v2v : LpAt G37 ⟨0, 129, vke⟩ Try.f8 0 :=
  va9 rfl (fun x => (n09n_bp0 x).p) vl8 vlp (Sum.elim ((exZ .ret vl8 vlp)) ((exZ (.exit 0) vl8 vlp))) (fun _ _ => ⟨rfl, rfl⟩) (fun z => by rcases z with z | z <;> (intro h; cases h)) (fun k z => by rcases z with z | z <;> rfl) (fun x => by kernel_rfl)
theorem v3q : LpAt G37 ⟨0, 129, vke⟩ Try.f8 2 :=
  va9 rfl (fun x => (n09n_bp2 x).p) vl4 vmu (Sum.elim ((exZ .ret vl4 vmu)) ((exZ (.exit 2) vl4 vmu))) (fun _ _ => ⟨rfl, rfl⟩) (fun z => by rcases z with z | z <;> (intro h; cases h)) (fun k z => by rcases z with z | z <;> rfl) (fun x => by kernel_rfl)
theorem v42 : vae Try.prog 8 vy2 :=
  vbx G37_ok follows (Try.f8.body.getD .skip) Try.func8 (by kernel_rfl) fun p q => ⟨vke, (n09n_p _).p.map _, by rw [v0m]; kernel_rfl, vad (ids := [0, 2]) (by kernel_rfl) (by kernel_rfl) ⟨v2v, ⟨v3q, trivial⟩⟩⟩
def G38 : Glob := G37.add 8 vy2
theorem v89 : GlobOk Try.prog G38 := G37_ok.add ⟨Try.f8, Try.func8, by kernel_rfl, by kernel_rfl⟩ v42
end
end Go.VE
