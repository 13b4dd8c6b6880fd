/- Each function told by its native program; written by gen.py. -/
import Derived.Test.YtiajamilfgkecaaFnSeenS0
namespace Go.VE
open Go.Proofs
noncomputable section
set_option linter.unusedVariables false
set_option linter.unusedSimpArgs false
set_option maxRecDepth 100000
def vxh : Nat → Option LoopSpec
  | _ => none
theorem v8n : vac Try.prog 51 v5d :=
  vby G0_ok follows (Try.f51.body.getD .skip) Try.func51 (by kernel_rfl) fun p q => ⟨vxh, (n17n_p _).p.map _, by rw [vy9]; kernel_rfl, vad (ids := []) (by kernel_rfl) (by kernel_rfl) trivial⟩
def G1 : Glob := G0.add 51 v5d
theorem G1_ok : GlobOk Try.prog G1 := G0_ok.add ⟨Try.f51, Try.func51, by kernel_rfl, by kernel_rfl⟩ v8n
def vfh : ((List Int) × Int × Int) → List AV := fun x => [.lst (.int .u8) x.1, .i x.2.1, .i x.2.2]
def ve5 : ((List Int) × Int × Int) → St := fun x => []
def vt0 : ((List Int) × Int × Int) → List AV := fun x => [.lst (.int .u8) x.1, .i x.2.1, .i x.2.2]
def vsz : ((List Int) × Int × Int) → St := fun x => []
def vke : Nat → Option LoopSpec
  | 6000001 => some (ctS [0, 3, 4] [] [.lst (.int .u8), .i, .i] [] vdd (fun p q => (p.1, p.2.1, p.2.2.1)) (fun k => (onE (exZ .norm vfh ve5) k)))
  | 0 => some (lpS [0, 3, 4] [] [.lst (.int .u8), .i, .i] [] vii (fun p q => (p.1, p.2.1, p.2.2.1)) (fun k => (onE (exZ (.exit 0) vt0 vsz) k)))
  | _ => none
theorem vm7 : CtAt G1.shallow ⟨0, 32, vke⟩ Try.f113 6000001 :=
  v4n rfl (fun x => (n32n_jp6000001 x).p) vfh ve5 (exZ .norm vfh ve5) (fun _ _ => ⟨rfl, rfl⟩) (fun _ _ => rfl) (fun x => by kernel_rfl)
theorem v3s : LpAt G1.shallow ⟨0, 32, vke⟩ Try.f113 0 :=
  vbw rfl (fun x => (n32n_bp0 x).p) vt0 vsz (exZ (.exit 0) vt0 vsz) (fun _ _ => ⟨rfl, rfl⟩) (fun z => by (intro h; cases h)) (fun _ _ => rfl) (fun x => by kernel_rfl)
theorem v74 : vac Try.prog 113 v39 :=
  vby G1_ok.shallow follows (Try.f113.body.getD .skip) Try.func113 (by kernel_rfl) fun p q => ⟨vke, (n32n_p _).p.map _, by rw [v0z]; kernel_rfl, vad (ids := [6000001, 0]) (by kernel_rfl) (by kernel_rfl) ⟨vm7, ⟨v3s, trivial⟩⟩⟩
def G2 : Glob := G1.add 113 v39
theorem G2_ok : GlobOk Try.prog G2 := G1_ok.add ⟨Try.f113, Try.func113, by kernel_rfl, by kernel_rfl⟩ v74
def vxy : Nat → Option LoopSpec
  | 2000002 => some ⟨[0, 2, 4, 6, 8, 10, 12, 14, 16, 18, 20, 22, 24], [], fun _ _ _ => none⟩
  | 2000003 => some ⟨[0, 2, 4, 6, 8, 10, 12, 14, 16, 18], [], fun _ _ _ => none⟩
  | 2000004 => some ⟨[0, 2, 4, 6, 8, 10, 12, 14, 16, 18, 20, 22, 24, 26, 28], [], fun _ _ _ => none⟩
  | _ => none
theorem v8r : vac Try.prog 130 v37 :=
  vby G2_ok.shallow follows (Try.f130.body.getD .skip) Try.func130 (by kernel_rfl) fun p q => ⟨vxy, (n30n_p _ _ _).p.map _, by rw [vzh]; kernel_rfl, vad (ids := []) (by kernel_rfl) (by kernel_rfl) trivial⟩
def G3 : Glob := G2.add 130 v37
theorem G3_ok : GlobOk Try.prog G3 := G2_ok.add ⟨Try.f130, Try.func130, by kernel_rfl, by kernel_rfl⟩ v8r
def vxr : Nat → Option LoopSpec
  | _ => none
theorem v7o : vac Try.prog 125 v4l :=
  vby G3_ok.shallow follows (Try.f125.body.getD .skip) Try.func125 (by kernel_rfl) fun p q => ⟨vxr, (n29n_p _ _ _ _).p.map _, by rw [v00]; kernel_rfl, vad (ids := []) (by kernel_rfl) (by kernel_rfl) trivial⟩
def G4 : Glob := G3.add 125 v4l
theorem G4_ok : GlobOk Try.prog G4 := G3_ok.add ⟨Try.f125, Try.func125, by kernel_rfl, by kernel_rfl⟩ v7o
def vx5 : Nat → Option LoopSpec
  | _ => none
theorem v8b : vac Try.prog 166 v34 :=
  vby G4_ok.shallow follows (Try.f166.body.getD .skip) Try.func166 (by kernel_rfl) fun p q => ⟨vx5, (n34n_p _ _ _ _).p.map _, by rw [vym]; kernel_rfl, vad (ids := []) (by kernel_rfl) (by kernel_rfl) trivial⟩
def G5 : Glob := G4.add 166 v34
theorem G5_ok : GlobOk Try.prog G5 := G4_ok.add ⟨Try.f166, Try.func166, by kernel_rfl, by kernel_rfl⟩ v8b
def vx2 : Nat → Option LoopSpec
  | _ => none
theorem v7n : vac Try.prog 124 v35 :=
  vby G5_ok.shallow follows (Try.f124.body.getD .skip) Try.func124 (by kernel_rfl) fun p q => ⟨vx2, (n35n_p _ _ _).p.map _, by rw [vvz]; kernel_rfl, vad (ids := []) (by kernel_rfl) (by kernel_rfl) trivial⟩
def G6 : Glob := G5.add 124 v35
theorem G6_ok : GlobOk Try.prog G6 := G5_ok.add ⟨Try.f124, Try.func124, by kernel_rfl, by kernel_rfl⟩ v7n
def vxn : Nat → Option LoopSpec
  | _ => none
theorem v8p : vac Try.prog 132 v4o :=
  vby G6_ok.shallow follows (Try.f132.body.getD .skip) Try.func132 (by kernel_rfl) fun p q => ⟨vxn, (n33n_p _ _ _ _).p.map _, by rw [vz6]; kernel_rfl, vad (ids := []) (by kernel_rfl) (by kernel_rfl) trivial⟩
def G7 : Glob := G6.add 132 v4o
theorem G7_ok : GlobOk Try.prog G7 := G6_ok.add ⟨Try.f132, Try.func132, by kernel_rfl, by kernel_rfl⟩ v8p
def vx1 : Nat → Option LoopSpec
  | _ => none
theorem v6w : vac Try.prog 165 v4x :=
  vby G7_ok.shallow follows (Try.f165.body.getD .skip) Try.func165 (by kernel_rfl) fun p q => ⟨vx1, (n36n_p _ _ _).p.map _, by rw [v1g]; kernel_rfl, vad (ids := []) (by kernel_rfl) (by kernel_rfl) trivial⟩
def G8 : Glob := G7.add 165 v4x
theorem G8_ok : GlobOk Try.prog G8 := G7_ok.add ⟨Try.f165, Try.func165, by kernel_rfl, by kernel_rfl⟩ v6w
def vs4 : q11T → List AV := fun x => [.lst tWrite x.1, .bp 0 0, .own 1, .i x.2.1]
def vul : q11T → St := fun x => [.box [.str x.2.2.1, .str x.2.2.2.1, .bool x.2.2.2.2.1], .arr tWrite x.2.2.2.2.2]
def vud : q11T → List AV := fun x => [.lst tWrite x.1, .bp 0 0, .own 1, .i x.2.1]
def vur : q11T → St := fun x => [.box [.str x.2.2.1, .str x.2.2.2.1, .bool x.2.2.2.2.1], .arr tWrite x.2.2.2.2.2]
def vj6 : Nat → Option LoopSpec
  | 0 => some (lpS [0, 3, 5, 6] [] [.lst tWrite, .bp 0 0, .own 1, .i] [.box [.str, .str, .bool], .arr tWrite] vg5 (fun p q => (p.1, p.2.2.2.1, q.1.1, q.1.2.1, q.1.2.2.1, q.2.1)) (fun k => (onE (exZ (.exit 0) vs4 vul) k)))
  | 2 => some (lpS [0, 3, 5, 7] [] [.lst tWrite, .bp 0 0, .own 1, .i] [.box [.str, .str, .bool], .arr tWrite] vhp (fun p q => (p.1, p.2.2.2.1, q.1.1, q.1.2.1, q.1.2.2.1, q.2.1)) (fun k => (onE (exZ (.exit 2) vud vur) k)))
  | 2000005 => some ⟨[0, 2, 4, 6, 8, 10, 12, 14], [], fun _ _ _ => none⟩
  | 2000011 => some ⟨[0, 2, 4, 6, 8, 10, 12, 14], [], fun _ _ _ => none⟩
  | _ => none
theorem v3q : LpAt G8.shallow ⟨0, 56, vj6⟩ Try.f88 0 :=
  vbw rfl (fun x => (n27n_bp0 x).p) vs4 vul (exZ (.exit 0) vs4 vul) (fun _ _ => ⟨rfl, rfl⟩) (fun z => by (intro h; cases h)) (fun _ _ => rfl) (fun x => by kernel_rfl)
theorem v1u : LpAt G8.shallow ⟨0, 56, vj6⟩ Try.f88 2 :=
  vbw rfl (fun x => (n27n_bp2 x).p) vud vur (exZ (.exit 2) vud vur) (fun _ _ => ⟨rfl, rfl⟩) (fun z => by (intro h; cases h)) (fun _ _ => rfl) (fun x => by kernel_rfl)
theorem v8o : vac Try.prog 88 v5c :=
  vby G8_ok.shallow follows (Try.f88.body.getD .skip) Try.func88 (by kernel_rfl) fun p q => ⟨vj6, (n27n_p _ _).p.map _, by rw [v0k]; kernel_rfl, vad (ids := [0, 2]) (by kernel_rfl) (by kernel_rfl) ⟨v3q, ⟨v1u, trivial⟩⟩⟩
def G9 : Glob := G8.add 88 v5c
theorem G9_ok : GlobOk Try.prog G9 := G8_ok.add ⟨Try.f88, Try.func88, by kernel_rfl, by kernel_rfl⟩ v8o
def vuh : q20T → List AV := fun x => [.bp 0 0, .own 1, .i x.1]
def vts : q20T → St := fun x => [.box [.lst (.int .u8) x.2.1, .i x.2.2.1, .i x.2.2.2.1], .arr tWrite x.2.2.2.2]
def vng : Nat → Option LoopSpec
  | 0 => some (lpS [0, 3, 4] [] [.bp 0 0, .own 1, .i] [.box [.lst (.int .u8), .i, .i], .arr tWrite] vi3 (fun p q => (p.2.2.1, q.1.1, q.1.2.1, q.1.2.2.1, q.2.1)) (fun k => (onE (exZ (.exit 0) vuh vts) k)))
  | _ => none
theorem v3b : LpAt G9.shallow ⟨1, 17, vng⟩ Try.f122 0 :=
  vbw rfl (fun x => (n37n_bp0 x).p) vuh vts (exZ (.exit 0) vuh vts) (fun _ _ => ⟨rfl, rfl⟩) (fun z => by (intro h; cases h)) (fun _ _ => rfl) (fun x => by kernel_rfl)
theorem v7q : vac Try.prog 122 v4e :=
  vby G9_ok.shallow follows (Try.f122.body.getD .skip) Try.func122 (by kernel_rfl) fun p q => ⟨vng, (n37n_p _ _ _).p.map _, by rw [vyi]; kernel_rfl, vad (ids := [0]) (by kernel_rfl) (by kernel_rfl) ⟨v3b, trivial⟩⟩
def G10 : Glob := G9.add 122 v4e
theorem G10_ok : GlobOk Try.prog G10 := G9_ok.add ⟨Try.f122, Try.func122, by kernel_rfl, by kernel_rfl⟩ v7q
def vfd : q13T → List AV := fun x => [.lst tWrite x.1, .i x.2.1, .own 0, .i x.2.2.1, .bp 1 0, .own 2, .i x.2.2.2.1]
def vfa : q13T → St := fun x => let xh := x.2.2.2.2.2.2.2.2; [.arr tVersion x.2.2.2.2.1, .box [.str x.2.2.2.2.2.1, .str x.2.2.2.2.2.2.1, .bool x.2.2.2.2.2.2.2.1, .i xh.1], .arr tVersion xh.2]
def vt5 : q13T → List AV := fun x => [.lst tWrite x.1, .i x.2.1, .own 0, .i x.2.2.1, .bp 1 0, .own 2, .i x.2.2.2.1]
def vug : q13T → St := fun x => let xh := x.2.2.2.2.2.2.2.2; [.arr tVersion x.2.2.2.2.1, .box [.str x.2.2.2.2.2.1, .str x.2.2.2.2.2.2.1, .bool x.2.2.2.2.2.2.2.1, .i xh.1], .arr tVersion xh.2]
def vub : q12T → List AV := fun x => [.lst tWrite x.1, .i x.2.1, .own 0, .i x.2.2.1]
def vtz : q12T → St := fun x => [.arr tVersion x.2.2.2]
def vhw : Nat → Option LoopSpec
  | 6000003 => some (ctS [1, 2, 7, 8, 9, 10, 11] [] [.lst tWrite, .i, .own 0, .i, .bp 1 0, .own 2, .i] [.arr tVersion, .box [.str, .str, .bool, .i], .arr tVersion] vcj (fun p q => (p.1, p.2.1, p.2.2.2.1, p.2.2.2.2.2.2.1, q.1, q.2.1.1, q.2.1.2.1, q.2.1.2.2.1, q.2.1.2.2.2.1, q.2.2.1)) (fun k => (onE (exZ .norm vfd vfa) k)))
  | 2 => some (lpS [1, 2, 7, 8, 9, 10, 11] [] [.lst tWrite, .i, .own 0, .i, .bp 1 0, .own 2, .i] [.arr tVersion, .box [.str, .str, .bool, .i], .arr tVersion] vig (fun p q => (p.1, p.2.1, p.2.2.2.1, p.2.2.2.2.2.2.1, q.1, q.2.1.1, q.2.1.2.1, q.2.1.2.2.1, q.2.1.2.2.2.1, q.2.2.1)) (fun k => (onE (exZ (.exit 2) vt5 vug) k)))
  | 0 => some (lpS [1, 2, 7, 8] [] [.lst tWrite, .i, .own 0, .i] [.arr tVersion] viv (fun p q => (p.1, p.2.1, p.2.2.2.1, q.1)) (fun k => (onE (exZ (.exit 0) vub vtz) k)))
  | 2000008 => some ⟨[0, 2, 4, 6, 8, 10, 12, 14, 16, 18, 20, 22, 24, 26, 28, 30, 32, 34, 36, 38, 40, 42, 44, 46, 48, 50, 52, 54, 56, 58, 60, 62, 64, 66], [], fun _ _ _ => none⟩
  | _ => none
theorem vm5 : CtAt G10.shallow ⟨0, 93, vhw⟩ Try.f13 6000003 :=
  v4n rfl (fun x => (n26n_jp6000003 x).p) vfd vfa (exZ .norm vfd vfa) (fun _ _ => ⟨rfl, rfl⟩) (fun _ _ => rfl) (fun x => by kernel_rfl)
theorem v2z : LpAt G10.shallow ⟨0, 93, vhw⟩ Try.f13 2 :=
  vbw rfl (fun x => (n26n_bp2 x).p) vt5 vug (exZ (.exit 2) vt5 vug) (fun _ _ => ⟨rfl, rfl⟩) (fun z => by (intro h; cases h)) (fun _ _ => rfl) (fun x => by kernel_rfl)
theorem v13 : LpAt G10.shallow ⟨0, 93, vhw⟩ Try.f13 0 :=
  vbw rfl (fun x => (n26n_bp0 x).p) vub vtz (exZ (.exit 0) vub vtz) (fun _ _ => ⟨rfl, rfl⟩) (fun z => by (intro h; cases h)) (fun _ _ => rfl) (fun x => by kernel_rfl)
theorem v6v : vac Try.prog 13 v4v :=
  vby G10_ok.shallow follows (Try.f13.body.getD .skip) Try.func13 (by kernel_rfl) fun p q => ⟨vhw, (n26n_p _ _ _).p.map _, by rw [vyo]; kernel_rfl, vad (ids := [6000003, 2, 0]) (by kernel_rfl) (by kernel_rfl) ⟨vm5, ⟨v2z, ⟨v13, trivial⟩⟩⟩⟩
def G11 : Glob := G10.add 13 v4v
theorem G11_ok : GlobOk Try.prog G11 := G10_ok.add ⟨Try.f13, Try.func13, by kernel_rfl, by kernel_rfl⟩ v6v
def vtm : q19T → List AV := fun x => [.bp 0 0, .own 1, .i x.1]
def vuk : q19T → St := fun x => [.box [.lst (.int .u8) x.2.1, .i x.2.2.1, .i x.2.2.2.1], .arr tVersion x.2.2.2.2]
def vok : Nat → Option LoopSpec
  | 0 => some (lpS [0, 3, 4] [] [.bp 0 0, .own 1, .i] [.box [.lst (.int .u8), .i, .i], .arr tVersion] vio (fun p q => (p.2.2.1, q.1.1, q.1.2.1, q.1.2.2.1, q.2.1)) (fun k => (onE (exZ (.exit 0) vtm vuk) k)))
  | _ => none
theorem v3t : LpAt G11.shallow ⟨1, 19, vok⟩ Try.f114 0 :=
  vbw rfl (fun x => (n40n_bp0 x).p) vtm vuk (exZ (.exit 0) vtm vuk) (fun _ _ => ⟨rfl, rfl⟩) (fun z => by (intro h; cases h)) (fun _ _ => rfl) (fun x => by kernel_rfl)
theorem v78 : vac Try.prog 114 v4q :=
  vby G11_ok.shallow follows (Try.f114.body.getD .skip) Try.func114 (by kernel_rfl) fun p q => ⟨vok, (n40n_p _ _ _).p.map _, by rw [v0i]; kernel_rfl, vad (ids := [0]) (by kernel_rfl) (by kernel_rfl) ⟨v3t, trivial⟩⟩
def G12 : Glob := G11.add 114 v4q
theorem G12_ok : GlobOk Try.prog G12 := G11_ok.add ⟨Try.f114, Try.func114, by kernel_rfl, by kernel_rfl⟩ v78
def vw4 : Nat → Option LoopSpec
  | _ => none
theorem v75 : vac Try.prog 53 v4f :=
  vby G12_ok.shallow follows (Try.f53.body.getD .skip) Try.func53 (by kernel_rfl) fun p q => ⟨vw4, (n24n_p _).p.map _, by rw [v1o]; kernel_rfl, vad (ids := []) (by kernel_rfl) (by kernel_rfl) trivial⟩
def G13 : Glob := G12.add 53 v4f
theorem G13_ok : GlobOk Try.prog G13 := G12_ok.add ⟨Try.f53, Try.func53, by kernel_rfl, by kernel_rfl⟩ v75
def vw6 : Nat → Option LoopSpec
  | _ => none
theorem v65 : vac Try.prog 60 v5f :=
  vby G13_ok.shallow follows (Try.f60.body.getD .skip) Try.func60 (by kernel_rfl) fun p q => ⟨vw6, (n25n_p _).p.map _, by rw [v03]; kernel_rfl, vad (ids := []) (by kernel_rfl) (by kernel_rfl) trivial⟩
def G14 : Glob := G13.add 60 v5f
theorem G14_ok : GlobOk Try.prog G14 := G13_ok.add ⟨Try.f60, Try.func60, by kernel_rfl, by kernel_rfl⟩ v65
def vw3 : Nat → Option LoopSpec
  | _ => none
theorem v8g : vac Try.prog 169 v38 :=
  vby G14_ok follows (Try.f169.body.getD .skip) Try.func169 (by kernel_rfl) fun p q => ⟨vw3, (n03n_p _).p.map _, by rw [v0b]; kernel_rfl, vad (ids := []) (by kernel_rfl) (by kernel_rfl) trivial⟩
def G15 : Glob := G14.add 169 v38
theorem G15_ok : GlobOk Try.prog G15 := G14_ok.add ⟨Try.f169, Try.func169, by kernel_rfl, by kernel_rfl⟩ v8g
def vxk : Nat → Option LoopSpec
  | _ => none
theorem v8u : vac Try.prog 140 v41 :=
  vby G15_ok follows (Try.f140.body.getD .skip) Try.func140 (by kernel_rfl) fun p q => ⟨vxk, (n01n_p _ _).p.map _, by rw [v0x]; kernel_rfl, vad (ids := []) (by kernel_rfl) (by kernel_rfl) trivial⟩
def G16 : Glob := G15.add 140 v41
theorem G16_ok : GlobOk Try.prog G16 := G15_ok.add ⟨Try.f140, Try.func140, by kernel_rfl, by kernel_rfl⟩ v8u
def vxe : Nat → Option LoopSpec
  | _ => none
theorem v6t : vac Try.prog 170 v44 :=
  vby G16_ok follows (Try.f170.body.getD .skip) Try.func170 (by kernel_rfl) fun p q => ⟨vxe, (n02n_p _).p.map _, by rw [vz8]; kernel_rfl, vad (ids := []) (by kernel_rfl) (by kernel_rfl) trivial⟩
def G17 : Glob := G16.add 170 v44
theorem G17_ok : GlobOk Try.prog G17 := G16_ok.add ⟨Try.f170, Try.func170, by kernel_rfl, by kernel_rfl⟩ v6t
def vxa : Nat → Option LoopSpec
  | _ => none
theorem v6z : vac Try.prog 141 v42 :=
  vby G17_ok follows (Try.f141.body.getD .skip) Try.func141 (by kernel_rfl) fun p q => ⟨vxa, (n00n_p _ _).p.map _, by rw [vzp]; kernel_rfl, vad (ids := []) (by kernel_rfl) (by kernel_rfl) trivial⟩
def G18 : Glob := G17.add 141 v42
theorem G18_ok : GlobOk Try.prog G18 := G17_ok.add ⟨Try.f141, Try.func141, by kernel_rfl, by kernel_rfl⟩ v6z
def vxg : Nat → Option LoopSpec
  | _ => none
theorem v7p : vac Try.prog 79 v4p :=
  vby G18_ok follows (Try.f79.body.getD .skip) Try.func79 (by kernel_rfl) fun p q => ⟨vxg, (n11n_p _ _).p.map _, by rw [vyv]; kernel_rfl, vad (ids := []) (by kernel_rfl) (by kernel_rfl) trivial⟩
def G19 : Glob := G18.add 79 v4p
theorem G19_ok : GlobOk Try.prog G19 := G18_ok.add ⟨Try.f79, Try.func79, by kernel_rfl, by kernel_rfl⟩ v7p
def vxq : Nat → Option LoopSpec
  | _ => none
theorem v7a : vac Try.prog 78 v4a :=
  vby G19_ok follows (Try.f78.body.getD .skip) Try.func78 (by kernel_rfl) fun p q => ⟨vxq, (n07n_p _ _ _ _ _).p.map _, by rw [v1n]; kernel_rfl, vad (ids := []) (by kernel_rfl) (by kernel_rfl) trivial⟩
def G20 : Glob := G19.add 78 v4a
theorem G20_ok : GlobOk Try.prog G20 := G19_ok.add ⟨Try.f78, Try.func78, by kernel_rfl, by kernel_rfl⟩ v7a
def vmm : q10T → List AV := fun x => [.lst tVersion x.1, .fn 78 [.bp 0 0], .i x.2.1, .i x.2.2.1, .i x.2.2.2.1]
def vmi : q10T → St := fun x => [.box [.str x.2.2.2.2.1, .str x.2.2.2.2.2.1, .bool x.2.2.2.2.2.2.1, .i x.2.2.2.2.2.2.2]]
def vnq : Nat → Option LoopSpec
  | 0 => some (lpS [0, 1, 4, 7, 8] [] [.lst tVersion, .fn 78 [.bp 0 0], .i, .i, .i] [.box [.str, .str, .bool, .i]] vg7 (fun p q => (p.1, p.2.2.1, p.2.2.2.1, p.2.2.2.2.1, q.1.1, q.1.2.1, q.1.2.2.1, q.1.2.2.2.1)) (fun k => (Sum.elim (onE (exZ .ret vmm vmi) k) (onE (exZ (.exit 0) vmm vmi) k))))
  | _ => none
theorem v3h : LpAt G20 ⟨1, 19, vnq⟩ Try.f77 0 :=
  vbw rfl (fun x => (n20n_bp0 x).p) vmm vmi (Sum.elim ((exZ .ret vmm vmi)) ((exZ (.exit 0) vmm vmi))) (fun _ _ => ⟨rfl, rfl⟩) (fun z => by rcases z with z | z <;> (intro h; cases h)) (fun k z => by rcases z with z | z <;> rfl) (fun x => by kernel_rfl)
theorem ves : vac Try.prog 77 vcl :=
  vby G20_ok follows (Try.f77.body.getD .skip) Try.func77 (by kernel_rfl) fun p q => ⟨vnq, (n20n_p _ _ _ _ _).p.map _, by rw [v0r]; kernel_rfl, vad (ids := [0]) (by kernel_rfl) (by kernel_rfl) ⟨v3h, trivial⟩⟩
def G21 : Glob := G20.add 77 vcl
theorem G21_ok : GlobOk Try.prog G21 := G20_ok.add ⟨Try.f77, Try.func77, by kernel_rfl, by kernel_rfl⟩ ves
theorem vfw : vac Try.prog 80 vb1 := by
  intro args s k r hk
  unfold vb1 at hk
  rw [vz5] at hk
  unfold vsq at hk
  exact vpw Try.insLayb (by decide) (e := tVersion) rfl #[.string ⟨#[]⟩, .string ⟨#[]⟩, .bool false, .int IntKind.i64 0] rfl rfl args s k r hk
def G22 : Glob := G21.add 80 vb1
theorem G22_ok : GlobOk Try.prog G22 := G21_ok.add ⟨Try.f80, Try.func80, by kernel_rfl, by kernel_rfl⟩ vfw
def vup : q21T → List AV := fun x => [.i x.1, .own 0, .lst tWrite x.2.1, .i x.2.2.1, .i x.2.2.2.1]
def vuo : q21T → St := fun x => [.arr tVersion x.2.2.2.2]
def vob : Nat → Option LoopSpec
  | 0 => some (lpS [2, 7, 14, 15, 16] [] [.i, .own 0, .lst tWrite, .i, .i] [.arr tVersion] vgz (fun p q => (p.1, p.2.2.1, p.2.2.2.1, p.2.2.2.2.1, q.1)) (fun k => (onE (exZ (.exit 0) vup vuo) k)))
  | _ => none
theorem v20 : LpAt G22 ⟨0, 42, vob⟩ Try.f16 0 :=
  vbw rfl (fun x => (n06n_bp0 x).p) vup vuo (exZ (.exit 0) vup vuo) (fun _ _ => ⟨rfl, rfl⟩) (fun z => by (intro h; cases h)) (fun _ _ => rfl) (fun x => by kernel_rfl)
theorem v8f : vac Try.prog 16 v4g :=
  vby G22_ok follows (Try.f16.body.getD .skip) Try.func16 (by kernel_rfl) fun p q => ⟨vob, (n06n_p _ _ _).p.map _, by rw [vyz]; kernel_rfl, vad (ids := [0]) (by kernel_rfl) (by kernel_rfl) ⟨v20, trivial⟩⟩
def G23 : Glob := G22.add 16 v4g
theorem G23_ok : GlobOk Try.prog G23 := G22_ok.add ⟨Try.f16, Try.func16, by kernel_rfl, by kernel_rfl⟩ v8f
def vui : q6T → List AV := fun x => [.lst tVersion x.1, .str x.2.1, .i x.2.2.1, .i x.2.2.2.1, .lst tVersion x.2.2.2.2.1, .i x.2.2.2.2.2.1, .i x.2.2.2.2.2.2]
def vti : q6T → St := fun x => []
def vni : Nat → Option LoopSpec
  | 0 => some (lpS [0, 1, 2, 7, 10, 11, 12] [] [.lst tVersion, .str, .i, .i, .lst tVersion, .i, .i] [] vg9 (fun p q => (p.1, p.2.1, p.2.2.1, p.2.2.2.1, p.2.2.2.2.1, p.2.2.2.2.2.1, p.2.2.2.2.2.2.1)) (fun k => (onE (exZ (.exit 0) vui vti) k)))
  | 2000005 => some ⟨[0, 2, 4, 6, 8, 10, 12, 14, 16, 18, 20, 22, 24, 26, 28, 30, 32, 34, 36, 38, 40, 42, 44, 46], [], fun _ _ _ => none⟩
  | _ => none
theorem v3n : LpAt G23 ⟨0, 44, vni⟩ Try.f123 0 :=
  vbw rfl (fun x => (n13n_bp0 x).p) vui vti (exZ (.exit 0) vui vti) (fun _ _ => ⟨rfl, rfl⟩) (fun z => by (intro h; cases h)) (fun _ _ => rfl) (fun x => by kernel_rfl)
theorem v7r : vac Try.prog 123 v49 :=
  vby G23_ok follows (Try.f123.body.getD .skip) Try.func123 (by kernel_rfl) fun p q => ⟨vni, (n13n_p _ _ _).p.map _, by rw [vy7]; kernel_rfl, vad (ids := [0]) (by kernel_rfl) (by kernel_rfl) ⟨v3n, trivial⟩⟩
def G24 : Glob := G23.add 123 v49
theorem G24_ok : GlobOk Try.prog G24 := G23_ok.add ⟨Try.f123, Try.func123, by kernel_rfl, by kernel_rfl⟩ v7r
def vxb : Nat → Option LoopSpec
  | _ => none
theorem v7w : vac Try.prog 61 v5b :=
  vby G24_ok follows (Try.f61.body.getD .skip) Try.func61 (by kernel_rfl) fun p q => ⟨vxb, (n09n_p _ _ _).p.map _, by rw [v1h]; kernel_rfl, vad (ids := []) (by kernel_rfl) (by kernel_rfl) trivial⟩
def G25 : Glob := G24.add 61 v5b
theorem G25_ok : GlobOk Try.prog G25 := G24_ok.add ⟨Try.f61, Try.func61, by kernel_rfl, by kernel_rfl⟩ v7w
def vuu : (Int × Int × Int × (List Int)) → List AV := fun x => [.i x.1, .int .u8 x.2.1, .own 0, .i x.2.2.1]
def vto : (Int × Int × Int × (List Int)) → St := fun x => [.arr (.int .u8) x.2.2.2]
def vol : Nat → Option LoopSpec
  | 0 => some (lpS [0, 1, 5, 6] [] [.i, .int .u8, .own 0, .i] [.arr (.int .u8)] vik (fun p q => (p.1, p.2.1, p.2.2.2.1, q.1)) (fun k => (onE (exZ (.exit 0) vuu vto) k)))
  | _ => none
theorem v2b : LpAt G25.shallow ⟨0, 20, vol⟩ Try.f167 0 :=
  vbw rfl (fun x => (n31n_bp0 x).p) vuu vto (exZ (.exit 0) vuu vto) (fun _ _ => ⟨rfl, rfl⟩) (fun z => by (intro h; cases h)) (fun _ _ => rfl) (fun x => by kernel_rfl)
theorem v69 : vac Try.prog 167 v4h :=
  vby G25_ok.shallow follows (Try.f167.body.getD .skip) Try.func167 (by kernel_rfl) fun p q => ⟨vol, (n31n_p _ _).p.map _, by rw [vz0]; kernel_rfl, vad (ids := [0]) (by kernel_rfl) (by kernel_rfl) ⟨v2b, trivial⟩⟩
def G26 : Glob := G25.add 167 v4h
theorem G26_ok : GlobOk Try.prog G26 := G25_ok.add ⟨Try.f167, Try.func167, by kernel_rfl, by kernel_rfl⟩ v69
def vxm : Nat → Option LoopSpec
  | _ => none
theorem v7g : vac Try.prog 126 v4m :=
  vby G26_ok.shallow follows (Try.f126.body.getD .skip) Try.func126 (by kernel_rfl) fun p q => ⟨vxm, (n38n_p _ _ _).p.map _, by rw [v0a]; kernel_rfl, vad (ids := []) (by kernel_rfl) (by kernel_rfl) trivial⟩
def G27 : Glob := G26.add 126 v4m
theorem G27_ok : GlobOk Try.prog G27 := G26_ok.add ⟨Try.f126, Try.func126, by kernel_rfl, by kernel_rfl⟩ v7g
def vxf : Nat → Option LoopSpec
  | _ => none
theorem v8v : vac Try.prog 62 v40 :=
  vby G27_ok.shallow follows (Try.f62.body.getD .skip) Try.func62 (by kernel_rfl) fun p q => ⟨vxf, (n23n_p _).p.map _, by rw [v05]; kernel_rfl, vad (ids := []) (by kernel_rfl) (by kernel_rfl) trivial⟩
def G28 : Glob := G27.add 62 v40
theorem G28_ok : GlobOk Try.prog G28 := G27_ok.add ⟨Try.f62, Try.func62, by kernel_rfl, by kernel_rfl⟩ v8v
def vt3 : q7T → List AV := fun x => [.lst tVersion x.1, .str x.2.1, .i x.2.2.1, .i x.2.2.2.1, .i x.2.2.2.2]
def vte : q7T → St := fun x => []
def vo1 : Nat → Option LoopSpec
  | 0 => some (lpS [0, 1, 2, 7, 8] [] [.lst tVersion, .str, .i, .i, .i] [] vhn (fun p q => (p.1, p.2.1, p.2.2.1, p.2.2.2.1, p.2.2.2.2.1)) (fun k => (onE (exZ (.exit 0) vt3 vte) k)))
  | 2000005 => some ⟨[0, 2, 4, 6, 8, 10, 12, 14, 16, 18, 20, 22, 24, 26, 28, 30, 32, 34, 36, 38, 40, 42, 44, 46, 48, 50, 52, 54, 56, 58, 60, 62, 64], [], fun _ _ _ => none⟩
  | _ => none
theorem v1q : LpAt G28.shallow ⟨0, 50, vo1⟩ Try.f127 0 :=
  vbw rfl (fun x => (n39n_bp0 x).p) vt3 vte (exZ (.exit 0) vt3 vte) (fun _ _ => ⟨rfl, rfl⟩) (fun z => by (intro h; cases h)) (fun _ _ => rfl) (fun x => by kernel_rfl)
theorem v7c : vac Try.prog 127 v47 :=
  vby G28_ok.shallow follows (Try.f127.body.getD .skip) Try.func127 (by kernel_rfl) fun p q => ⟨vo1, (n39n_p _ _ _).p.map _, by rw [vy8]; kernel_rfl, vad (ids := [0]) (by kernel_rfl) (by kernel_rfl) ⟨v1q, trivial⟩⟩
def G29 : Glob := G28.add 127 v47
theorem G29_ok : GlobOk Try.prog G29 := G28_ok.add ⟨Try.f127, Try.func127, by kernel_rfl, by kernel_rfl⟩ v7c
def vw5 : Nat → Option LoopSpec
  | _ => none
theorem v8c : vac Try.prog 63 v5g :=
  vby G29_ok.shallow follows (Try.f63.body.getD .skip) Try.func63 (by kernel_rfl) fun p q => ⟨vw5, (n28n_p _ _ _).p.map _, by rw [v0l]; kernel_rfl, vad (ids := []) (by kernel_rfl) (by kernel_rfl) trivial⟩
def G30 : Glob := G29.add 63 v5g
theorem G30_ok : GlobOk Try.prog G30 := G29_ok.add ⟨Try.f63, Try.func63, by kernel_rfl, by kernel_rfl⟩ v8c
def vxu : Nat → Option LoopSpec
  | _ => none
theorem v79 : vac Try.prog 129 v4t :=
  vby G30_ok follows (Try.f129.body.getD .skip) Try.func129 (by kernel_rfl) fun p q => ⟨vxu, (n14n_p _ _ _).p.map _, by rw [v0v]; kernel_rfl, vad (ids := []) (by kernel_rfl) (by kernel_rfl) trivial⟩
def G31 : Glob := G30.add 129 v4t
theorem G31_ok : GlobOk Try.prog G31 := G30_ok.add ⟨Try.f129, Try.func129, by kernel_rfl, by kernel_rfl⟩ v79
def vmj : (ByteArray × Bool × Int) → List AV := fun x => [.str x.1, .bool x.2.1, .i x.2.2]
def vl0 : (ByteArray × Bool × Int) → St := fun x => []
def voe : Nat → Option LoopSpec
  | 0 => some (lpS [0, 2, 3] [] [.str, .bool, .i] [] vgy (fun p q => (p.1, p.2.1, p.2.2.1)) (fun k => (Sum.elim (onE (exZ .ret vmj vl0) k) (onE (exZ (.exit 0) vmj vl0) k))))
  | _ => none
theorem v2l : LpAt G31 ⟨0, 23, voe⟩ Try.f128 0 :=
  vbw rfl (fun x => (n05n_bp0 x).p) vmj vl0 (Sum.elim ((exZ .ret vmj vl0)) ((exZ (.exit 0) vmj vl0))) (fun _ _ => ⟨rfl, rfl⟩) (fun z => by rcases z with z | z <;> (intro h; cases h)) (fun k z => by rcases z with z | z <;> rfl) (fun x => by kernel_rfl)
theorem v7m : vac Try.prog 128 v4r :=
  vby G31_ok follows (Try.f128.body.getD .skip) Try.func128 (by kernel_rfl) fun p q => ⟨voe, (n05n_p _).p.map _, by rw [vzx]; kernel_rfl, vad (ids := [0]) (by kernel_rfl) (by kernel_rfl) ⟨v2l, trivial⟩⟩
def G32 : Glob := G31.add 128 v4r
theorem G32_ok : GlobOk Try.prog G32 := G31_ok.add ⟨Try.f128, Try.func128, by kernel_rfl, by kernel_rfl⟩ v7m
def vlh : q5T → List AV := fun x => [.lst tVersion x.1, .bool x.2.1, .lst tVersion x.2.2.1, .i x.2.2.2.1, .i x.2.2.2.2]
def vlc : q5T → St := fun x => []
def vnn : Nat → Option LoopSpec
  | 0 => some (lpS [0, 2, 5, 6, 7] [] [.lst tVersion, .bool, .lst tVersion, .i, .i] [] vg6 (fun p q => (p.1, p.2.1, p.2.2.1, p.2.2.2.1, p.2.2.2.2.1)) (fun k => (Sum.elim (onE (exZ .ret vlh vlc) k) (onE (exZ (.exit 0) vlh vlc) k))))
  | 2000004 => some ⟨[0, 2, 5, 6, 8, 10, 12, 14, 16, 18, 20, 22, 24, 26, 28, 30, 32, 34, 36, 38, 40, 42, 45, 46, 48, 50, 52, 54, 56, 58, 60, 62, 64, 66, 68, 71, 72, 74, 76], [], fun _ _ _ => none⟩
  | _ => none
theorem v1w : LpAt G32 ⟨0, 55, vnn⟩ Try.f64 0 :=
  vbw rfl (fun x => (n10n_bp0 x).p) vlh vlc (Sum.elim ((exZ .ret vlh vlc)) ((exZ (.exit 0) vlh vlc))) (fun _ _ => ⟨rfl, rfl⟩) (fun z => by rcases z with z | z <;> (intro h; cases h)) (fun k z => by rcases z with z | z <;> rfl) (fun x => by kernel_rfl)
theorem v63 : vac Try.prog 64 v4b :=
  vby G32_ok follows (Try.f64.body.getD .skip) Try.func64 (by kernel_rfl) fun p q => ⟨vnn, (n10n_p _).p.map _, by rw [vzj]; kernel_rfl, vad (ids := [0]) (by kernel_rfl) (by kernel_rfl) ⟨v1w, trivial⟩⟩
def G33 : Glob := G32.add 64 v4b
theorem G33_ok : GlobOk Try.prog G33 := G32_ok.add ⟨Try.f64, Try.func64, by kernel_rfl, by kernel_rfl⟩ v63
def vwx : Nat → Option LoopSpec
  | _ => none
theorem v8t : vac Try.prog 55 v48 :=
  vby G33_ok follows (Try.f55.body.getD .skip) Try.func55 (by kernel_rfl) fun p q => ⟨vwx, n16n_p.p.map _, by rw [vyx]; kernel_rfl, vad (ids := []) (by kernel_rfl) (by kernel_rfl) trivial⟩
def G34 : Glob := G33.add 55 v48
theorem G34_ok : GlobOk Try.prog G34 := G33_ok.add ⟨Try.f55, Try.func55, by kernel_rfl, by kernel_rfl⟩ v8t
theorem vh8 : vac Try.prog 116 vcp := by
  intro args s k r hk
  unfold vcp at hk
  rw [vzq] at hk
  unfold vr6 at hk
  have e : Try.laysSort_ren.f 190 = 116 := by kernel_rfl
  exact e ▸ vo7 Try.laysSort args s k r hk
def G35 : Glob := G34.add 116 vcp
theorem G35_ok : GlobOk Try.prog G35 := G34_ok.add ⟨Try.f116, Try.func116, by kernel_rfl, by kernel_rfl⟩ vh8
def vtr : (Int × Nat × Int × (List ByteArray)) → List AV := fun x => [.own 0, .i x.1, .win 0 x.2.1, .i x.2.2.1]
def vta : (Int × Nat × Int × (List ByteArray)) → St := fun x => [.arr .str x.2.2.2]
def vs9 : q18T → List AV := fun x => [.own 0, .own 1, .i x.1]
def vty : q18T → St := fun x => [.arr .str x.2.1, .arr .str x.2.2]
def vvr : (Int × (List ByteArray)) → Out × List AV × St := fun z => (.ret, [.own 0, .own 1, .i z.1], [.gone, .arr .str z.2])
def vj4 : Nat → Option LoopSpec
  | 2 => some (lpS [0, 3, 4, 5] [] [.own 0, .i, .win 0, .i] [.arr .str] vgm (fun p q => (p.2.1, p.2.2.1, p.2.2.2.1, q.1)) (fun k => (onE (exZ (.exit 2) vtr vta) k)))
  | 0 => some (lpS [0, 2, 3] [none, some .str] [.own 0, .own 1, .i] [.arr .str, .arr .str] vff (fun p q => (p.2.2.1, q.1, q.2.1)) (fun k => (Sum.elim (onE (exZ (.exit 0) vs9 vty) k) (onE vvr k))))
  | 2000006 => some ⟨[0, 2, 4, 6, 8, 10, 12, 14, 16, 18], [], fun _ _ _ => none⟩
  | 2000011 => some ⟨[0, 2, 4, 6, 8, 10, 12, 14, 16, 18], [], fun _ _ _ => none⟩
  | _ => none
theorem v15 : LpAt G35 ⟨1, 61, vj4⟩ Try.f117 2 :=
  vbw rfl (fun x => (n19n_bp2 x).p) vtr vta (exZ (.exit 2) vtr vta) (fun _ _ => ⟨rfl, rfl⟩) (fun z => by (intro h; cases h)) (fun _ _ => rfl) (fun x => by kernel_rfl)
theorem v2w : LpAt G35 ⟨1, 61, vj4⟩ Try.f117 0 :=
  vbw rfl (fun x => (n19n_bp0 x).p) vs9 vty (Sum.elim ((exZ (.exit 0) vs9 vty)) (vvr)) (fun _ _ => ⟨rfl, rfl⟩) (fun z => by rcases z with z | z <;> (intro h; cases h)) (fun k z => by rcases z with z | z <;> rfl) (fun x => by kernel_rfl)
theorem vf8 : vac Try.prog 117 vc5 :=
  vby G35_ok follows (Try.f117.body.getD .skip) Try.func117 (by kernel_rfl) fun p q => ⟨vj4, (n19n_p _).p.map2 _ _, by rw [vy5]; kernel_rfl, vad (ids := [2, 0]) (by kernel_rfl) (by kernel_rfl) ⟨v15, ⟨v2w, trivial⟩⟩⟩
def G36 : Glob := G35.add 117 vc5
theorem G36_ok : GlobOk Try.prog G36 := G35_ok.add ⟨Try.f117, Try.func117, by kernel_rfl, by kernel_rfl⟩ vf8
def vuq : q8T → List AV := fun x => [.own 0, .lst tVersion x.1, .i x.2.1, .i x.2.2.1]
def vt9 : q8T → St := fun x => [.arr .str x.2.2.2]
def vn6 : Nat → Option LoopSpec
  | 0 => some (lpS [3, 6, 7, 8] [some .str] [.own 0, .lst tVersion, .i, .i] [.arr .str] vhk (fun p q => (p.2.1, p.2.2.1, p.2.2.2.1, q.1)) (fun k => (onE (exZ (.exit 0) vuq vt9) k)))
  | _ => none
theorem v19 : LpAt G36 ⟨0, 22, vn6⟩ Try.f115 0 :=
  vbw rfl (fun x => (n12n_bp0 x).p) vuq vt9 (exZ (.exit 0) vuq vt9) (fun _ _ => ⟨rfl, rfl⟩) (fun z => by (intro h; cases h)) (fun _ _ => rfl) (fun x => by kernel_rfl)
theorem v7i : vac Try.prog 115 v4w :=
  vby G36_ok follows (Try.f115.body.getD .skip) Try.func115 (by kernel_rfl) fun p q => ⟨vn6, (n12n_p _).p.map _, by rw [v0q]; kernel_rfl, vad (ids := [0]) (by kernel_rfl) (by kernel_rfl) ⟨v19, trivial⟩⟩
def G37 : Glob := G36.add 115 v4w
theorem G37_ok : GlobOk Try.prog G37 := G36_ok.add ⟨Try.f115, Try.func115, by kernel_rfl, by kernel_rfl⟩ v7i
def vxw : Nat → Option LoopSpec
  | _ => none
theorem v60 : vac Try.prog 118 v4k :=
  vby G37_ok follows (Try.f118.body.getD .skip) Try.func118 (by kernel_rfl) fun p q => ⟨vxw, (n04n_p _ _).p.map _, by rw [v02]; kernel_rfl, vad (ids := []) (by kernel_rfl) (by kernel_rfl) trivial⟩
def G38 : Glob := G37.add 118 v4k
theorem G38_ok : GlobOk Try.prog G38 := G37_ok.add ⟨Try.f118, Try.func118, by kernel_rfl, by kernel_rfl⟩ v60
def vtg : q9T → List AV := fun x => [.lst tVersion x.1, .i x.2.1, .bp 0 0, .own 1, .own 2, .i x.2.2.1, .i x.2.2.2.1]
def vtt : q9T → St := fun x => [.box [.str x.2.2.2.2.1, .str x.2.2.2.2.2.1], .arr tRange x.2.2.2.2.2.2.1, .arr .str x.2.2.2.2.2.2.2]
def vod : Nat → Option LoopSpec
  | 0 => some (lpS [0, 2, 4, 7, 13, 14, 15] [none, none, none, some tRange] [.lst tVersion, .i, .bp 0 0, .own 1, .own 2, .i, .i] [.box [.str, .str], .arr tRange, .arr .str] vgc (fun p q => (p.1, p.2.1, p.2.2.2.2.2.1, p.2.2.2.2.2.2.1, q.1.1, q.1.2.1, q.2.1, q.2.2.1)) (fun k => (onE (exZ (.exit 0) vtg vtt) k)))
  | _ => none
theorem v2a : LpAt G38 ⟨0, 40, vod⟩ Try.f58 0 :=
  vbw rfl (fun x => (n08n_bp0 x).p) vtg vtt (exZ (.exit 0) vtg vtt) (fun _ _ => ⟨rfl, rfl⟩) (fun z => by (intro h; cases h)) (fun _ _ => rfl) (fun x => by kernel_rfl)
theorem v7b : vac Try.prog 58 v5e :=
  vby G38_ok follows (Try.f58.body.getD .skip) Try.func58 (by kernel_rfl) fun p q => ⟨vod, (n08n_p _ _ _).p.map _, by rw [v1i]; kernel_rfl, vad (ids := [0]) (by kernel_rfl) (by kernel_rfl) ⟨v2a, trivial⟩⟩
def G39 : Glob := G38.add 58 v5e
theorem G39_ok : GlobOk Try.prog G39 := G38_ok.add ⟨Try.f58, Try.func58, by kernel_rfl, by kernel_rfl⟩ v7b
def vmd : q3T → List AV := fun x => [.lst tRange x.1, .lst tRange x.2.1, .bool x.2.2.1, .i x.2.2.2]
def vm2 : q3T → St := fun x => []
def vor : Nat → Option LoopSpec
  | 0 => some (lpS [0, 1, 4, 5] [] [.lst tRange, .lst tRange, .bool, .i] [] vho (fun p q => (p.1, p.2.1, p.2.2.1, p.2.2.2.1)) (fun k => (Sum.elim (onE (exZ .ret vmd vm2) k) (onE (exZ (.exit 0) vmd vm2) k))))
  | 2000006 => some ⟨[0, 2, 4, 6, 8, 10, 12, 14, 16], [], fun _ _ _ => none⟩
  | _ => none
theorem v2c : LpAt G39 ⟨0, 26, vor⟩ Try.f57 0 :=
  vbw rfl (fun x => (n18n_bp0 x).p) vmd vm2 (Sum.elim ((exZ .ret vmd vm2)) ((exZ (.exit 0) vmd vm2))) (fun _ _ => ⟨rfl, rfl⟩) (fun z => by rcases z with z | z <;> (intro h; cases h)) (fun k z => by rcases z with z | z <;> rfl) (fun x => by kernel_rfl)
theorem v7j : vac Try.prog 57 v4u :=
  vby G39_ok follows (Try.f57.body.getD .skip) Try.func57 (by kernel_rfl) fun p q => ⟨vor, (n18n_p _ _).p.map _, by rw [vyq]; kernel_rfl, vad (ids := [0]) (by kernel_rfl) (by kernel_rfl) ⟨v2c, trivial⟩⟩
def G40 : Glob := G39.add 57 v4u
theorem G40_ok : GlobOk Try.prog G40 := G39_ok.add ⟨Try.f57, Try.func57, by kernel_rfl, by kernel_rfl⟩ v7j
def vm0 : q0T → List AV := fun x => [.lst (.int .u8) x.1, .bool x.2.1, .own 0, .own 1, .own 2, .i x.2.2.1]
def vm3 : q0T → St := fun x => [.arr tVersion x.2.2.2.1, .arr tWrite x.2.2.2.2.1, .arr tVersion x.2.2.2.2.2]
def vnz : Nat → Option LoopSpec
  | 0 => some (lpS [0, 2, 3, 4, 5, 6] [] [.lst (.int .u8), .bool, .own 0, .own 1, .own 2, .i] [.arr tVersion, .arr tWrite, .arr tVersion] vge (fun p q => (p.1, p.2.1, p.2.2.2.2.2.1, q.1, q.2.1, q.2.2.1)) (fun k => (Sum.elim (onE (exZ .ret vm0 vm3) k) (onE (exZ (.exit 0) vm0 vm3) k))))
  | _ => none
theorem v3m : LpAt G40 ⟨0, 142, vnz⟩ Try.f9 0 :=
  vbw rfl (fun x => (n15n_bp0 x).p) vm0 vm3 (Sum.elim ((exZ .ret vm0 vm3)) ((exZ (.exit 0) vm0 vm3))) (fun _ _ => ⟨rfl, rfl⟩) (fun z => by rcases z with z | z <;> (intro h; cases h)) (fun k z => by rcases z with z | z <;> rfl) (fun x => by kernel_rfl)
theorem v45 : vac Try.prog 9 vyr :=
  vby G40_ok follows (Try.f9.body.getD .skip) Try.func9 (by kernel_rfl) fun p q => ⟨vnz, (n15n_p _).p.map _, by rw [vzm]; kernel_rfl, vad (ids := [0]) (by kernel_rfl) (by kernel_rfl) ⟨v3m, trivial⟩⟩
def G41 : Glob := G40.add 9 vyr
theorem v85 : GlobOk Try.prog G41 := G40_ok.add ⟨Try.f9, Try.func9, by kernel_rfl, by kernel_rfl⟩ v45
end
end Go.VE
