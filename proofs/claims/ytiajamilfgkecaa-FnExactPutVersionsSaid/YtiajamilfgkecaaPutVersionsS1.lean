/- Each function told by its native program; written by gen.py. -/
import Derived.Test.YtiajamilfgkecaaPutVersionsS0
namespace Go.VE
open Go.Proofs
noncomputable section
set_option linter.unusedVariables false
set_option linter.unusedSimpArgs false
set_option maxRecDepth 100000
def vvd : Nat → Option LoopSpec
  | _ => none
theorem v17 : vae Try.prog 75 vzp :=
  vcy G0_ok follows (Try.f75.body.getD .skip) Try.func75 (by kernel_rfl) fun p q => ⟨vvd, (n16n_p _ _).p.map _, by rw [vwj]; kernel_rfl, vaf (ids := []) (by kernel_rfl) (by kernel_rfl) trivial⟩
def G1 : Glob := G0.add 75 vzp
theorem G1_ok : GlobOk Try.prog G1 := G0_ok.add ⟨Try.f75, Try.func75, by kernel_rfl, by kernel_rfl⟩ v17
def vk0 : q5T → List AV := fun x => [.lst tVersion x.1, .i x.2.1, .i x.2.2.1, .i x.2.2.2]
def vk9 : q5T → St := fun x => []
def vm0 : Nat → Option LoopSpec
  | 0 => some (lpS [0, 1, 4, 5] [] [.lst tVersion, .i, .i, .i] [] vha (fun p q => (p.1, p.2.1, p.2.2.1, p.2.2.2.1)) (fun k => (Sum.elim (onE (exZ .ret vk0 vk9) k) (onE (exZ (.exit 0) vk0 vk9) k))))
  | _ => none
theorem vya : LpAt G1 ⟨0, 27, vm0⟩ Try.f11 0 :=
  vcf rfl (fun x => (n17n_bp0 x).p) vk0 vk9 (Sum.elim ((exZ .ret vk0 vk9)) ((exZ (.exit 0) vk0 vk9))) (fun _ _ => ⟨rfl, rfl⟩) (fun z => by rcases z with z | z <;> (intro h; cases h)) (fun k z => by rcases z with z | z <;> rfl) (fun x => by kernel_rfl)
theorem v16 : vae Try.prog 11 vzo :=
  vcy G1_ok follows (Try.f11.body.getD .skip) Try.func11 (by kernel_rfl) fun p q => ⟨vm0, (n17n_p _ _).p.map _, by rw [vvz]; kernel_rfl, vaf (ids := [0]) (by kernel_rfl) (by kernel_rfl) ⟨vya, trivial⟩⟩
def G2 : Glob := G1.add 11 vzo
theorem G2_ok : GlobOk Try.prog G2 := G1_ok.add ⟨Try.f11, Try.func11, by kernel_rfl, by kernel_rfl⟩ v16
def vut : Nat → Option LoopSpec
  | _ => none
theorem v1y : vae Try.prog 23 v0a :=
  vcy G2_ok follows (Try.f23.body.getD .skip) Try.func23 (by kernel_rfl) fun p q => ⟨vut, (n18n_p _ _).p.map _, by rw [vwa]; kernel_rfl, vaf (ids := []) (by kernel_rfl) (by kernel_rfl) trivial⟩
def G3 : Glob := G2.add 23 v0a
theorem G3_ok : GlobOk Try.prog G3 := G2_ok.add ⟨Try.f23, Try.func23, by kernel_rfl, by kernel_rfl⟩ v1y
def vkn : q10T → List AV := fun x => [.lst tWrite x.1, .i x.2.1, .i x.2.2.1, .i x.2.2.2]
def vl6 : q10T → St := fun x => []
def vm4 : Nat → Option LoopSpec
  | 0 => some (lpS [0, 1, 4, 5] [] [.lst tWrite, .i, .i, .i] [] vgc (fun p q => (p.1, p.2.1, p.2.2.1, p.2.2.2.1)) (fun k => (Sum.elim (onE (exZ .ret vkn vl6) k) (onE (exZ (.exit 0) vkn vl6) k))))
  | _ => none
theorem vxx : LpAt G3 ⟨0, 27, vm4⟩ Try.f12 0 :=
  vcf rfl (fun x => (n19n_bp0 x).p) vkn vl6 (Sum.elim ((exZ .ret vkn vl6)) ((exZ (.exit 0) vkn vl6))) (fun _ _ => ⟨rfl, rfl⟩) (fun z => by rcases z with z | z <;> (intro h; cases h)) (fun k z => by rcases z with z | z <;> rfl) (fun x => by kernel_rfl)
theorem v1j : vae Try.prog 12 vzu :=
  vcy G3_ok follows (Try.f12.body.getD .skip) Try.func12 (by kernel_rfl) fun p q => ⟨vm4, (n19n_p _ _).p.map _, by rw [vwx]; kernel_rfl, vaf (ids := [0]) (by kernel_rfl) (by kernel_rfl) ⟨vxx, trivial⟩⟩
def G4 : Glob := G3.add 12 vzu
theorem G4_ok : GlobOk Try.prog G4 := G3_ok.add ⟨Try.f12, Try.func12, by kernel_rfl, by kernel_rfl⟩ v1j
def vue : Nat → Option LoopSpec
  | _ => none
theorem v2n : vae Try.prog 76 vzs :=
  vcy G4_ok follows (Try.f76.body.getD .skip) Try.func76 (by kernel_rfl) fun p q => ⟨vue, (n20n_p _).p.map _, by rw [vxg]; kernel_rfl, vaf (ids := []) (by kernel_rfl) (by kernel_rfl) trivial⟩
def G5 : Glob := G4.add 76 vzs
theorem G5_ok : GlobOk Try.prog G5 := G4_ok.add ⟨Try.f76, Try.func76, by kernel_rfl, by kernel_rfl⟩ v2n
def vsh : q3T → List AV := fun x => [.lst tVersion x.1, .own 0, .i x.2.1]
def vri : q3T → St := fun x => [.arr tVersion x.2.2]
def vnb : Nat → Option LoopSpec
  | 0 => some (lpS [0, 3, 4] [] [.lst tVersion, .own 0, .i] [.arr tVersion] vgq (fun p q => (p.1, p.2.2.1, q.1)) (fun k => (onE (exZ (.exit 0) vsh vri) k)))
  | _ => none
theorem vzk : LpAt G5 ⟨0, 23, vnb⟩ Try.f14 0 :=
  vcf rfl (fun x => (n21n_bp0 x).p) vsh vri (exZ (.exit 0) vsh vri) (fun _ _ => ⟨rfl, rfl⟩) (fun z => by (intro h; cases h)) (fun _ _ => rfl) (fun x => by kernel_rfl)
theorem v2g : vae Try.prog 14 v0g :=
  vcy G5_ok follows (Try.f14.body.getD .skip) Try.func14 (by kernel_rfl) fun p q => ⟨vnb, (n21n_p _).p.map _, by rw [vv5]; kernel_rfl, vaf (ids := [0]) (by kernel_rfl) (by kernel_rfl) ⟨vzk, trivial⟩⟩
def G6 : Glob := G5.add 14 v0g
theorem G6_ok : GlobOk Try.prog G6 := G5_ok.add ⟨Try.f14, Try.func14, by kernel_rfl, by kernel_rfl⟩ v2g
def vu2 : Nat → Option LoopSpec
  | _ => none
theorem v1s : vae Try.prog 26 vz3 :=
  vcy G6_ok follows (Try.f26.body.getD .skip) Try.func26 (by kernel_rfl) fun p q => ⟨vu2, (n22n_p _).p.map _, by rw [vvu]; kernel_rfl, vaf (ids := []) (by kernel_rfl) (by kernel_rfl) trivial⟩
def G7 : Glob := G6.add 26 vz3
theorem G7_ok : GlobOk Try.prog G7 := G6_ok.add ⟨Try.f26, Try.func26, by kernel_rfl, by kernel_rfl⟩ v1s
def vrq : q7T → List AV := fun x => [.lst tWrite x.1, .own 0, .i x.2.1]
def vrm : q7T → St := fun x => [.arr tWrite x.2.2]
def vmk : Nat → Option LoopSpec
  | 0 => some (lpS [0, 3, 4] [] [.lst tWrite, .own 0, .i] [.arr tWrite] vf7 (fun p q => (p.1, p.2.2.1, q.1)) (fun k => (onE (exZ (.exit 0) vrq vrm) k)))
  | _ => none
theorem vy5 : LpAt G7 ⟨0, 23, vmk⟩ Try.f15 0 :=
  vcf rfl (fun x => (n23n_bp0 x).p) vrq vrm (exZ (.exit 0) vrq vrm) (fun _ _ => ⟨rfl, rfl⟩) (fun z => by (intro h; cases h)) (fun _ _ => rfl) (fun x => by kernel_rfl)
theorem v1q : vae Try.prog 15 vz6 :=
  vcy G7_ok follows (Try.f15.body.getD .skip) Try.func15 (by kernel_rfl) fun p q => ⟨vmk, (n23n_p _).p.map _, by rw [vvy]; kernel_rfl, vaf (ids := [0]) (by kernel_rfl) (by kernel_rfl) ⟨vy5, trivial⟩⟩
def G8 : Glob := G7.add 15 vz6
theorem G8_ok : GlobOk Try.prog G8 := G7_ok.add ⟨Try.f15, Try.func15, by kernel_rfl, by kernel_rfl⟩ v1q
def veh : q9T → List AV := fun x => [.lst tWrite x.1, .i x.2.1, .own 0, .i x.2.2.1, .bp 1 0, .own 2, .i x.2.2.2.1]
def vek : q9T → St := fun x => let xh := x.2.2.2.2.2.2.2.2; [.arr tVersion x.2.2.2.2.1, .box [.str x.2.2.2.2.2.1, .str x.2.2.2.2.2.2.1, .bool x.2.2.2.2.2.2.2.1, .i xh.1], .arr tVersion xh.2]
def vrp : q9T → List AV := fun x => [.lst tWrite x.1, .i x.2.1, .own 0, .i x.2.2.1, .bp 1 0, .own 2, .i x.2.2.2.1]
def vrx : q9T → St := fun x => let xh := x.2.2.2.2.2.2.2.2; [.arr tVersion x.2.2.2.2.1, .box [.str x.2.2.2.2.2.1, .str x.2.2.2.2.2.2.1, .bool x.2.2.2.2.2.2.2.1, .i xh.1], .arr tVersion xh.2]
def vsd : q8T → List AV := fun x => [.lst tWrite x.1, .i x.2.1, .own 0, .i x.2.2.1]
def vsa : q8T → St := fun x => [.arr tVersion x.2.2.2]
def vhf : Nat → Option LoopSpec
  | 6000003 => some (ctS [1, 2, 7, 8, 9, 10, 11] [] [.lst tWrite, .i, .own 0, .i, .bp 1 0, .own 2, .i] [.arr tVersion, .box [.str, .str, .bool, .i], .arr tVersion] vbx (fun p q => (p.1, p.2.1, p.2.2.2.1, p.2.2.2.2.2.2.1, q.1, q.2.1.1, q.2.1.2.1, q.2.1.2.2.1, q.2.1.2.2.2.1, q.2.2.1)) (fun k => (onE (exZ .norm veh vek) k)))
  | 2 => some (lpS [1, 2, 7, 8, 9, 10, 11] [] [.lst tWrite, .i, .own 0, .i, .bp 1 0, .own 2, .i] [.arr tVersion, .box [.str, .str, .bool, .i], .arr tVersion] vh4 (fun p q => (p.1, p.2.1, p.2.2.2.1, p.2.2.2.2.2.2.1, q.1, q.2.1.1, q.2.1.2.1, q.2.1.2.2.1, q.2.1.2.2.2.1, q.2.2.1)) (fun k => (onE (exZ (.exit 2) vrp vrx) k)))
  | 0 => some (lpS [1, 2, 7, 8] [] [.lst tWrite, .i, .own 0, .i] [.arr tVersion] vib (fun p q => (p.1, p.2.1, p.2.2.2.1, q.1)) (fun k => (onE (exZ (.exit 0) vsd vsa) k)))
  | 2000008 => some ⟨[0, 2, 4, 6, 8, 10, 12, 14, 16, 18, 20, 22, 24, 26, 28, 30, 32, 34, 36, 38, 40, 42, 44, 46, 48, 50, 52, 54, 56, 58, 60, 62, 64, 66], [], fun _ _ _ => none⟩
  | _ => none
theorem vmg : CtAt G8.shallow ⟨0, 93, vhf⟩ Try.f13 6000003 :=
  v0h rfl (fun x => (n26n_jp6000003 x).p) veh vek (exZ .norm veh vek) (fun _ _ => ⟨rfl, rfl⟩) (fun _ _ => rfl) (fun x => by kernel_rfl)
theorem vzd : LpAt G8.shallow ⟨0, 93, vhf⟩ Try.f13 2 :=
  vcf rfl (fun x => (n26n_bp2 x).p) vrp vrx (exZ (.exit 2) vrp vrx) (fun _ _ => ⟨rfl, rfl⟩) (fun z => by (intro h; cases h)) (fun _ _ => rfl) (fun x => by kernel_rfl)
theorem vy2 : LpAt G8.shallow ⟨0, 93, vhf⟩ Try.f13 0 :=
  vcf rfl (fun x => (n26n_bp0 x).p) vsd vsa (exZ (.exit 0) vsd vsa) (fun _ _ => ⟨rfl, rfl⟩) (fun z => by (intro h; cases h)) (fun _ _ => rfl) (fun x => by kernel_rfl)
theorem v1h : vae Try.prog 13 vz2 :=
  vcy G8_ok.shallow follows (Try.f13.body.getD .skip) Try.func13 (by kernel_rfl) fun p q => ⟨vhf, (n26n_p _ _ _).p.map _, by rw [vxa]; kernel_rfl, vaf (ids := [6000003, 2, 0]) (by kernel_rfl) (by kernel_rfl) ⟨vmg, ⟨vzd, ⟨vy2, trivial⟩⟩⟩⟩
def G9 : Glob := G8.add 13 vz2
theorem G9_ok : GlobOk Try.prog G9 := G8_ok.add ⟨Try.f13, Try.func13, by kernel_rfl, by kernel_rfl⟩ v1h
def vum : Nat → Option LoopSpec
  | _ => none
theorem v10 : vae Try.prog 169 vz1 :=
  vcy G9_ok follows (Try.f169.body.getD .skip) Try.func169 (by kernel_rfl) fun p q => ⟨vum, (n03n_p _).p.map _, by rw [vvt]; kernel_rfl, vaf (ids := []) (by kernel_rfl) (by kernel_rfl) trivial⟩
def G10 : Glob := G9.add 169 vz1
theorem G10_ok : GlobOk Try.prog G10 := G9_ok.add ⟨Try.f169, Try.func169, by kernel_rfl, by kernel_rfl⟩ v10
def vu1 : Nat → Option LoopSpec
  | _ => none
theorem v2q : vae Try.prog 140 vz4 :=
  vcy G10_ok follows (Try.f140.body.getD .skip) Try.func140 (by kernel_rfl) fun p q => ⟨vu1, (n01n_p _ _).p.map _, by rw [vv8]; kernel_rfl, vaf (ids := []) (by kernel_rfl) (by kernel_rfl) trivial⟩
def G11 : Glob := G10.add 140 vz4
theorem G11_ok : GlobOk Try.prog G11 := G10_ok.add ⟨Try.f140, Try.func140, by kernel_rfl, by kernel_rfl⟩ v2q
def vuq : Nat → Option LoopSpec
  | _ => none
theorem v2m : vae Try.prog 170 vz9 :=
  vcy G11_ok follows (Try.f170.body.getD .skip) Try.func170 (by kernel_rfl) fun p q => ⟨vuq, (n02n_p _).p.map _, by rw [vxu]; kernel_rfl, vaf (ids := []) (by kernel_rfl) (by kernel_rfl) trivial⟩
def G12 : Glob := G11.add 170 vz9
theorem G12_ok : GlobOk Try.prog G12 := G11_ok.add ⟨Try.f170, Try.func170, by kernel_rfl, by kernel_rfl⟩ v2m
def vuz : Nat → Option LoopSpec
  | _ => none
theorem v1u : vae Try.prog 141 vzx :=
  vcy G12_ok follows (Try.f141.body.getD .skip) Try.func141 (by kernel_rfl) fun p q => ⟨vuz, (n00n_p _ _).p.map _, by rw [vxr]; kernel_rfl, vaf (ids := []) (by kernel_rfl) (by kernel_rfl) trivial⟩
def G13 : Glob := G12.add 141 vzx
theorem G13_ok : GlobOk Try.prog G13 := G12_ok.add ⟨Try.f141, Try.func141, by kernel_rfl, by kernel_rfl⟩ v1u
def vuh : Nat → Option LoopSpec
  | _ => none
theorem v2b : vae Try.prog 79 vz5 :=
  vcy G13_ok follows (Try.f79.body.getD .skip) Try.func79 (by kernel_rfl) fun p q => ⟨vuh, (n06n_p _ _).p.map _, by rw [vvv]; kernel_rfl, vaf (ids := []) (by kernel_rfl) (by kernel_rfl) trivial⟩
def G14 : Glob := G13.add 79 vz5
theorem G14_ok : GlobOk Try.prog G14 := G13_ok.add ⟨Try.f79, Try.func79, by kernel_rfl, by kernel_rfl⟩ v2b
def vul : Nat → Option LoopSpec
  | _ => none
theorem v15 : vae Try.prog 78 vzv :=
  vcy G14_ok follows (Try.f78.body.getD .skip) Try.func78 (by kernel_rfl) fun p q => ⟨vul, (n05n_p _ _ _ _ _).p.map _, by rw [vv1]; kernel_rfl, vaf (ids := []) (by kernel_rfl) (by kernel_rfl) trivial⟩
def G15 : Glob := G14.add 78 vzv
theorem G15_ok : GlobOk Try.prog G15 := G14_ok.add ⟨Try.f78, Try.func78, by kernel_rfl, by kernel_rfl⟩ v15
def vlo : q4T → List AV := fun x => [.lst tVersion x.1, .fn 78 [.bp 0 0], .i x.2.1, .i x.2.2.1, .i x.2.2.2.1]
def vk7 : q4T → St := fun x => [.box [.str x.2.2.2.2.1, .str x.2.2.2.2.2.1, .bool x.2.2.2.2.2.2.1, .i x.2.2.2.2.2.2.2]]
def vmr : Nat → Option LoopSpec
  | 0 => some (lpS [0, 1, 4, 7, 8] [] [.lst tVersion, .fn 78 [.bp 0 0], .i, .i, .i] [.box [.str, .str, .bool, .i]] vgi (fun p q => (p.1, p.2.2.1, p.2.2.2.1, p.2.2.2.2.1, q.1.1, q.1.2.1, q.1.2.2.1, q.1.2.2.2.1)) (fun k => (Sum.elim (onE (exZ .ret vlo vk7) k) (onE (exZ (.exit 0) vlo vk7) k))))
  | _ => none
theorem vx4 : LpAt G15 ⟨1, 19, vmr⟩ Try.f77 0 :=
  vcf rfl (fun x => (n24n_bp0 x).p) vlo vk7 (Sum.elim ((exZ .ret vlo vk7)) ((exZ (.exit 0) vlo vk7))) (fun _ _ => ⟨rfl, rfl⟩) (fun z => by rcases z with z | z <;> (intro h; cases h)) (fun k z => by rcases z with z | z <;> rfl) (fun x => by kernel_rfl)
theorem vdz : vae Try.prog 77 vby :=
  vcy G15_ok follows (Try.f77.body.getD .skip) Try.func77 (by kernel_rfl) fun p q => ⟨vmr, (n24n_p _ _ _ _ _).p.map _, by rw [vw1]; kernel_rfl, vaf (ids := [0]) (by kernel_rfl) (by kernel_rfl) ⟨vx4, trivial⟩⟩
def G16 : Glob := G15.add 77 vby
theorem G16_ok : GlobOk Try.prog G16 := G15_ok.add ⟨Try.f77, Try.func77, by kernel_rfl, by kernel_rfl⟩ vdz
theorem vff : vae Try.prog 80 vbi := by
  intro args s k r hk
  unfold vbi at hk
  rw [vw3] at hk
  unfold vqx at hk
  exact von Try.insLayb (by decide) (e := tVersion) rfl #[.string ⟨#[]⟩, .string ⟨#[]⟩, .bool false, .int IntKind.i64 0] rfl rfl args s k r hk
def G17 : Glob := G16.add 80 vbi
theorem G17_ok : GlobOk Try.prog G17 := G16_ok.add ⟨Try.f80, Try.func80, by kernel_rfl, by kernel_rfl⟩ vff
def vrh : q13T → List AV := fun x => [.i x.1, .own 0, .lst tWrite x.2.1, .i x.2.2.1, .i x.2.2.2.1]
def vr4 : q13T → St := fun x => [.arr tVersion x.2.2.2.2]
def vnj : Nat → Option LoopSpec
  | 0 => some (lpS [2, 7, 14, 15, 16] [] [.i, .own 0, .lst tWrite, .i, .i] [.arr tVersion] vgd (fun p q => (p.1, p.2.2.1, p.2.2.2.1, p.2.2.2.2.1, q.1)) (fun k => (onE (exZ (.exit 0) vrh vr4) k)))
  | _ => none
theorem vyx : LpAt G17 ⟨0, 42, vnj⟩ Try.f16 0 :=
  vcf rfl (fun x => (n04n_bp0 x).p) vrh vr4 (exZ (.exit 0) vrh vr4) (fun _ _ => ⟨rfl, rfl⟩) (fun z => by (intro h; cases h)) (fun _ _ => rfl) (fun x => by kernel_rfl)
theorem v2p : vae Try.prog 16 vz8 :=
  vcy G17_ok follows (Try.f16.body.getD .skip) Try.func16 (by kernel_rfl) fun p q => ⟨vnj, (n04n_p _ _ _).p.map _, by rw [vws]; kernel_rfl, vaf (ids := [0]) (by kernel_rfl) (by kernel_rfl) ⟨vyx, trivial⟩⟩
def G18 : Glob := G17.add 16 vz8
theorem G18_ok : GlobOk Try.prog G18 := G17_ok.add ⟨Try.f16, Try.func16, by kernel_rfl, by kernel_rfl⟩ v2p
def vuu : Nat → Option LoopSpec
  | _ => none
theorem v19 : vae Try.prog 81 v0d :=
  vcy G18_ok follows (Try.f81.body.getD .skip) Try.func81 (by kernel_rfl) fun p q => ⟨vuu, (n08n_p _ _).p.map _, by rw [vxb]; kernel_rfl, vaf (ids := []) (by kernel_rfl) (by kernel_rfl) trivial⟩
def G19 : Glob := G18.add 81 v0d
theorem G19_ok : GlobOk Try.prog G19 := G18_ok.add ⟨Try.f81, Try.func81, by kernel_rfl, by kernel_rfl⟩ v19
def vku : q0T → List AV := fun x => [.lst tVersion x.1, .lst tVersion x.2.1, .bool x.2.2.1, .i x.2.2.2]
def vl1 : q0T → St := fun x => []
def vmx : Nat → Option LoopSpec
  | 0 => some (lpS [0, 1, 4, 5] [] [.lst tVersion, .lst tVersion, .bool, .i] [] vgn (fun p q => (p.1, p.2.1, p.2.2.1, p.2.2.2.1)) (fun k => (Sum.elim (onE (exZ .ret vku vl1) k) (onE (exZ (.exit 0) vku vl1) k))))
  | 2000006 => some ⟨[0, 2, 4, 6, 8, 10, 12, 14, 16, 18], [], fun _ _ _ => none⟩
  | _ => none
theorem vyl : LpAt G19 ⟨0, 27, vmx⟩ Try.f17 0 :=
  vcf rfl (fun x => (n09n_bp0 x).p) vku vl1 (Sum.elim ((exZ .ret vku vl1)) ((exZ (.exit 0) vku vl1))) (fun _ _ => ⟨rfl, rfl⟩) (fun z => by rcases z with z | z <;> (intro h; cases h)) (fun k z => by rcases z with z | z <;> rfl) (fun x => by kernel_rfl)
theorem v1p : vae Try.prog 17 vzn :=
  vcy G19_ok follows (Try.f17.body.getD .skip) Try.func17 (by kernel_rfl) fun p q => ⟨vmx, (n09n_p _ _).p.map _, by rw [vv2]; kernel_rfl, vaf (ids := [0]) (by kernel_rfl) (by kernel_rfl) ⟨vyl, trivial⟩⟩
def G20 : Glob := G19.add 17 vzn
theorem G20_ok : GlobOk Try.prog G20 := G19_ok.add ⟨Try.f17, Try.func17, by kernel_rfl, by kernel_rfl⟩ v1p
def vu4 : Nat → Option LoopSpec
  | _ => none
theorem v1r : vae Try.prog 82 vz7 :=
  vcy G20_ok follows (Try.f82.body.getD .skip) Try.func82 (by kernel_rfl) fun p q => ⟨vu4, (n10n_p _ _).p.map _, by rw [vvr]; kernel_rfl, vaf (ids := []) (by kernel_rfl) (by kernel_rfl) trivial⟩
def G21 : Glob := G20.add 82 vz7
theorem G21_ok : GlobOk Try.prog G21 := G20_ok.add ⟨Try.f82, Try.func82, by kernel_rfl, by kernel_rfl⟩ v1r
def vlf : q6T → List AV := fun x => [.lst tWrite x.1, .lst tWrite x.2.1, .bool x.2.2.1, .i x.2.2.2]
def vkq : q6T → St := fun x => []
def vnt : Nat → Option LoopSpec
  | 0 => some (lpS [0, 1, 4, 5] [] [.lst tWrite, .lst tWrite, .bool, .i] [] vgt (fun p q => (p.1, p.2.1, p.2.2.1, p.2.2.2.1)) (fun k => (Sum.elim (onE (exZ .ret vlf vkq) k) (onE (exZ (.exit 0) vlf vkq) k))))
  | 2000006 => some ⟨[0, 2, 4, 6, 8, 10, 12, 14, 16, 18], [], fun _ _ _ => none⟩
  | _ => none
theorem vzi : LpAt G21 ⟨0, 27, vnt⟩ Try.f18 0 :=
  vcf rfl (fun x => (n11n_bp0 x).p) vlf vkq (Sum.elim ((exZ .ret vlf vkq)) ((exZ (.exit 0) vlf vkq))) (fun _ _ => ⟨rfl, rfl⟩) (fun z => by rcases z with z | z <;> (intro h; cases h)) (fun k z => by rcases z with z | z <;> rfl) (fun x => by kernel_rfl)
theorem v12 : vae Try.prog 18 vz0 :=
  vcy G21_ok follows (Try.f18.body.getD .skip) Try.func18 (by kernel_rfl) fun p q => ⟨vnt, (n11n_p _ _).p.map _, by rw [vwb]; kernel_rfl, vaf (ids := [0]) (by kernel_rfl) (by kernel_rfl) ⟨vzi, trivial⟩⟩
def G22 : Glob := G21.add 18 vz0
theorem G22_ok : GlobOk Try.prog G22 := G21_ok.add ⟨Try.f18, Try.func18, by kernel_rfl, by kernel_rfl⟩ v12
def vrv : (Int × ByteArray) → List AV := fun x => [.i x.1, .str x.2]
def vrt : (Int × ByteArray) → St := fun x => []
def vnc : Nat → Option LoopSpec
  | 0 => some (lpS [0, 3] [] [.i, .str] [] vin (fun p q => (p.1, p.2.1)) (fun k => (onE (exZ (.exit 0) vrv vrt) k)))
  | _ => none
theorem vx5 : LpAt G22 ⟨0, 20, vnc⟩ Try.f83 0 :=
  vcf rfl (fun x => (n13n_bp0 x).p) vrv vrt (exZ (.exit 0) vrv vrt) (fun _ _ => ⟨rfl, rfl⟩) (fun z => by (intro h; cases h)) (fun _ _ => rfl) (fun x => by kernel_rfl)
theorem v1i : vae Try.prog 83 vzt :=
  vcy G22_ok follows (Try.f83.body.getD .skip) Try.func83 (by kernel_rfl) fun p q => ⟨vnc, (n13n_p _).p.map _, by rw [vvn]; kernel_rfl, vaf (ids := [0]) (by kernel_rfl) (by kernel_rfl) ⟨vx5, trivial⟩⟩
def G23 : Glob := G22.add 83 vzt
theorem G23_ok : GlobOk Try.prog G23 := G22_ok.add ⟨Try.f83, Try.func83, by kernel_rfl, by kernel_rfl⟩ v1i
def vrw : (Int × Int × (List vaa)) → List AV := fun x => [.own 0, .i x.1, .i x.2.1]
def vrz : (Int × Int × (List vaa)) → St := fun x => [.arr tVersion x.2.2]
def vmv : Nat → Option LoopSpec
  | 0 => some (lpS [0, 1, 5] [] [.own 0, .i, .i] [.arr tVersion] vg5 (fun p q => (p.2.1, p.2.2.1, q.1)) (fun k => (onE (exZ (.exit 0) vrw vrz) k)))
  | _ => none
theorem vy4 : LpAt G23 ⟨1, 45, vmv⟩ Try.f19 0 :=
  vcf rfl (fun x => (n14n_bp0 x).p) vrw vrz (exZ (.exit 0) vrw vrz) (fun _ _ => ⟨rfl, rfl⟩) (fun z => by (intro h; cases h)) (fun _ _ => rfl) (fun x => by kernel_rfl)
theorem vh5 : vae Try.prog 19 vdv :=
  vcy G23_ok follows (Try.f19.body.getD .skip) Try.func19 (by kernel_rfl) fun p q => ⟨vmv, (n14n_p _ _).p.map _, by rw [vv6]; kernel_rfl, vaf (ids := [0]) (by kernel_rfl) (by kernel_rfl) ⟨vy4, trivial⟩⟩
def G24 : Glob := G23.add 19 vdv
theorem G24_ok : GlobOk Try.prog G24 := G23_ok.add ⟨Try.f19, Try.func19, by kernel_rfl, by kernel_rfl⟩ vh5
def vrl : (Int × Int × (List vad)) → List AV := fun x => [.own 0, .i x.1, .i x.2.1]
def vsj : (Int × Int × (List vad)) → St := fun x => [.arr tWrite x.2.2]
def vm6 : Nat → Option LoopSpec
  | 0 => some (lpS [0, 1, 5] [] [.own 0, .i, .i] [.arr tWrite] vh1 (fun p q => (p.2.1, p.2.2.1, q.1)) (fun k => (onE (exZ (.exit 0) vrl vsj) k)))
  | _ => none
theorem vx8 : LpAt G24 ⟨1, 38, vm6⟩ Try.f20 0 :=
  vcf rfl (fun x => (n15n_bp0 x).p) vrl vsj (exZ (.exit 0) vrl vsj) (fun _ _ => ⟨rfl, rfl⟩) (fun z => by (intro h; cases h)) (fun _ _ => rfl) (fun x => by kernel_rfl)
theorem vjn : vae Try.prog 20 ve1 :=
  vcy G24_ok follows (Try.f20.body.getD .skip) Try.func20 (by kernel_rfl) fun p q => ⟨vm6, (n15n_p _ _).p.map _, by rw [vv4]; kernel_rfl, vaf (ids := [0]) (by kernel_rfl) (by kernel_rfl) ⟨vx8, trivial⟩⟩
def G25 : Glob := G24.add 20 ve1
theorem G25_ok : GlobOk Try.prog G25 := G24_ok.add ⟨Try.f20, Try.func20, by kernel_rfl, by kernel_rfl⟩ vjn
def vlm : q5T → List AV := fun x => [.lst tVersion x.1, .i x.2.1, .i x.2.2.1, .i x.2.2.2]
def vl4 : q5T → St := fun x => []
def vmt : Nat → Option LoopSpec
  | 0 => some (lpS [0, 1, 4, 5] [] [.lst tVersion, .i, .i, .i] [] vf3 (fun p q => (p.1, p.2.1, p.2.2.1, p.2.2.2.1)) (fun k => (Sum.elim (onE (exZ .ret vlm vl4) k) (onE (exZ (.exit 0) vlm vl4) k))))
  | 2000004 => some ⟨[0, 2, 4, 6, 8, 10, 13, 14], [], fun _ _ _ => none⟩
  | 2000007 => some ⟨[0, 2, 4, 6, 8, 10, 13, 14], [], fun _ _ _ => none⟩
  | _ => none
theorem vyr : LpAt G25 ⟨0, 53, vmt⟩ Try.f21 0 :=
  vcf rfl (fun x => (n12n_bp0 x).p) vlm vl4 (Sum.elim ((exZ .ret vlm vl4)) ((exZ (.exit 0) vlm vl4))) (fun _ _ => ⟨rfl, rfl⟩) (fun z => by rcases z with z | z <;> (intro h; cases h)) (fun k z => by rcases z with z | z <;> rfl) (fun x => by kernel_rfl)
theorem v1g : vae Try.prog 21 vzq :=
  vcy G25_ok follows (Try.f21.body.getD .skip) Try.func21 (by kernel_rfl) fun p q => ⟨vmt, (n12n_p _ _).p.map _, by rw [vww]; kernel_rfl, vaf (ids := [0]) (by kernel_rfl) (by kernel_rfl) ⟨vyr, trivial⟩⟩
def G26 : Glob := G25.add 21 vzq
theorem G26_ok : GlobOk Try.prog G26 := G25_ok.add ⟨Try.f21, Try.func21, by kernel_rfl, by kernel_rfl⟩ v1g
def vej : q2T → List AV := fun x => [.lst tVersion x.1, .lst tWrite x.2.1, .i x.2.2.1, .bool x.2.2.2.1, .own 0, .own 1]
def vec : q2T → St := fun x => [.arr tVersion x.2.2.2.2.1, .arr tVersion x.2.2.2.2.2]
def vm7 : Nat → Option LoopSpec
  | 5000023 => some (ctS [0, 1, 2, 6, 8, 11] [] [.lst tVersion, .lst tWrite, .i, .bool, .own 0, .own 1] [.arr tVersion, .arr tVersion] vbu (fun p q => (p.1, p.2.1, p.2.2.1, p.2.2.2.1, q.1, q.2.1)) (fun k => (onE (exZ .ret vej vec) k)))
  | _ => none
theorem vl8 : CtAt G26 ⟨0, 97, vm7⟩ Try.f3 5000023 :=
  v0h rfl (fun x => (n07n_jp5000023 x).p) vej vec (exZ .ret vej vec) (fun _ _ => ⟨rfl, rfl⟩) (fun _ _ => rfl) (fun x => by kernel_rfl)
theorem v0c : vae Try.prog 3 vxd :=
  vcy G26_ok follows (Try.f3.body.getD .skip) Try.func3 (by kernel_rfl) fun p q => ⟨vm7, (n07n_p _ _ _).p.map _, by rw [vxe]; kernel_rfl, vaf (ids := [5000023]) (by kernel_rfl) (by kernel_rfl) ⟨vl8, trivial⟩⟩
def G27 : Glob := G26.add 3 vxd
theorem v20 : GlobOk Try.prog G27 := G26_ok.add ⟨Try.f3, Try.func3, by kernel_rfl, by kernel_rfl⟩ v0c
end
end Go.VE
