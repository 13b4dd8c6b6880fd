/- Each function told by its native program; written by gen.py. -/
import Derived.Test.YtiajamilfgkecaaWriteKeyS0
namespace Go.VE
open Go.Proofs
noncomputable section
set_option linter.unusedVariables false
set_option linter.unusedSimpArgs false
set_option maxRecDepth 100000
def vzg : Nat → Option LoopSpec
  | _ => none
theorem v9t : vae Try.prog 144 v6s :=
  vbt G0_ok follows (Try.f144.body.getD .skip) Try.func144 (by kernel_rfl) fun p q => ⟨vzg, (n22n_p _ _).p.map _, by rw [v1m]; kernel_rfl, vad (ids := []) (by kernel_rfl) (by kernel_rfl) trivial⟩
def G1 : Glob := G0.add 144 v6s
theorem G1_ok : GlobOk Try.prog G1 := G0_ok.add ⟨Try.f144, Try.func144, by kernel_rfl, by kernel_rfl⟩ v9t
def voa : q2T → List AV := fun x => [.lst tRange x.1, .i x.2.1, .i x.2.2.1, .i x.2.2.2]
def vou : q2T → St := fun x => []
def vqx : Nat → Option LoopSpec
  | 0 => some (lpS [0, 1, 4, 5] [] [.lst tRange, .i, .i, .i] [] vhw (fun p q => (p.1, p.2.1, p.2.2.1, p.2.2.2.1)) (fun k => (Sum.elim (onE (exZ .ret voa vou) k) (onE (exZ (.exit 0) voa vou) k))))
  | _ => none
theorem v4z : LpAt G1 ⟨0, 27, vqx⟩ Try.f84 0 :=
  vbw rfl (fun x => (n23n_bp0 x).p) voa vou (Sum.elim ((exZ .ret voa vou)) ((exZ (.exit 0) voa vou))) (fun _ _ => ⟨rfl, rfl⟩) (fun z => by rcases z with z | z <;> (intro h; cases h)) (fun k z => by rcases z with z | z <;> rfl) (fun x => by kernel_rfl)
theorem v9e : vae Try.prog 84 v60 :=
  vbt G1_ok follows (Try.f84.body.getD .skip) Try.func84 (by kernel_rfl) fun p q => ⟨vqx, (n23n_p _ _).p.map _, by rw [v18]; kernel_rfl, vad (ids := [0]) (by kernel_rfl) (by kernel_rfl) ⟨v4z, trivial⟩⟩
def G2 : Glob := G1.add 84 v60
theorem G2_ok : GlobOk Try.prog G2 := G1_ok.add ⟨Try.f84, Try.func84, by kernel_rfl, by kernel_rfl⟩ v9e
def vza : Nat → Option LoopSpec
  | _ => none
theorem v9l : vae Try.prog 23 v6u :=
  vbt G2_ok follows (Try.f23.body.getD .skip) Try.func23 (by kernel_rfl) fun p q => ⟨vza, (n25n_p _ _).p.map _, by rw [v27]; kernel_rfl, vad (ids := []) (by kernel_rfl) (by kernel_rfl) trivial⟩
def G3 : Glob := G2.add 23 v6u
theorem G3_ok : GlobOk Try.prog G3 := G2_ok.add ⟨Try.f23, Try.func23, by kernel_rfl, by kernel_rfl⟩ v9l
def vok : q7T → List AV := fun x => [.lst tWrite x.1, .i x.2.1, .i x.2.2.1, .i x.2.2.2]
def vog : q7T → St := fun x => []
def vq1 : Nat → Option LoopSpec
  | 0 => some (lpS [0, 1, 4, 5] [] [.lst tWrite, .i, .i, .i] [] vhz (fun p q => (p.1, p.2.1, p.2.2.1, p.2.2.2.1)) (fun k => (Sum.elim (onE (exZ .ret vok vog) k) (onE (exZ (.exit 0) vok vog) k))))
  | _ => none
theorem v3l : LpAt G3 ⟨0, 27, vq1⟩ Try.f12 0 :=
  vbw rfl (fun x => (n26n_bp0 x).p) vok vog (Sum.elim ((exZ .ret vok vog)) ((exZ (.exit 0) vok vog))) (fun _ _ => ⟨rfl, rfl⟩) (fun z => by rcases z with z | z <;> (intro h; cases h)) (fun k z => by rcases z with z | z <;> rfl) (fun x => by kernel_rfl)
theorem v9v : vae Try.prog 12 v52 :=
  vbt G3_ok follows (Try.f12.body.getD .skip) Try.func12 (by kernel_rfl) fun p q => ⟨vq1, (n26n_p _ _).p.map _, by rw [v0n]; kernel_rfl, vad (ids := [0]) (by kernel_rfl) (by kernel_rfl) ⟨v3l, trivial⟩⟩
def G4 : Glob := G3.add 12 v52
theorem G4_ok : GlobOk Try.prog G4 := G3_ok.add ⟨Try.f12, Try.func12, by kernel_rfl, by kernel_rfl⟩ v9v
def vze : Nat → Option LoopSpec
  | _ => none
theorem v8x : vae Try.prog 22 v50 :=
  vbt G4_ok follows (Try.f22.body.getD .skip) Try.func22 (by kernel_rfl) fun p q => ⟨vze, (n24n_p _ _).p.map _, by rw [v2y]; kernel_rfl, vad (ids := []) (by kernel_rfl) (by kernel_rfl) trivial⟩
def G5 : Glob := G4.add 22 v50
theorem G5_ok : GlobOk Try.prog G5 := G4_ok.add ⟨Try.f22, Try.func22, by kernel_rfl, by kernel_rfl⟩ v8x
def vyx : Nat → Option LoopSpec
  | _ => none
theorem v8q : vae Try.prog 148 v5y :=
  vbt G5_ok follows (Try.f148.body.getD .skip) Try.func148 (by kernel_rfl) fun p q => ⟨vyx, (n27n_p _).p.map _, by rw [v0w]; kernel_rfl, vad (ids := []) (by kernel_rfl) (by kernel_rfl) trivial⟩
def G6 : Glob := G5.add 148 v5y
theorem G6_ok : GlobOk Try.prog G6 := G5_ok.add ⟨Try.f148, Try.func148, by kernel_rfl, by kernel_rfl⟩ v8q
def vvw : q1T → List AV := fun x => [.lst tRange x.1, .own 0, .i x.2.1]
def vv5 : q1T → St := fun x => [.arr tRange x.2.2]
def vre : Nat → Option LoopSpec
  | 0 => some (lpS [0, 3, 4] [] [.lst tRange, .own 0, .i] [.arr tRange] via (fun p q => (p.1, p.2.2.1, q.1)) (fun k => (onE (exZ (.exit 0) vvw vv5) k)))
  | _ => none
theorem v5u : LpAt G6 ⟨0, 23, vre⟩ Try.f90 0 :=
  vbw rfl (fun x => (n28n_bp0 x).p) vvw vv5 (exZ (.exit 0) vvw vv5) (fun _ _ => ⟨rfl, rfl⟩) (fun z => by (intro h; cases h)) (fun _ _ => rfl) (fun x => by kernel_rfl)
theorem v8m : vae Try.prog 90 v6j :=
  vbt G6_ok follows (Try.f90.body.getD .skip) Try.func90 (by kernel_rfl) fun p q => ⟨vre, (n28n_p _).p.map _, by rw [v1a]; kernel_rfl, vad (ids := [0]) (by kernel_rfl) (by kernel_rfl) ⟨v5u, trivial⟩⟩
def G7 : Glob := G6.add 90 v6j
theorem G7_ok : GlobOk Try.prog G7 := G6_ok.add ⟨Try.f90, Try.func90, by kernel_rfl, by kernel_rfl⟩ v8m
def vzb : Nat → Option LoopSpec
  | _ => none
theorem v9x : vae Try.prog 26 v6m :=
  vbt G7_ok follows (Try.f26.body.getD .skip) Try.func26 (by kernel_rfl) fun p q => ⟨vzb, (n30n_p _).p.map _, by rw [v2a]; kernel_rfl, vad (ids := []) (by kernel_rfl) (by kernel_rfl) trivial⟩
def G8 : Glob := G7.add 26 v6m
theorem G8_ok : GlobOk Try.prog G8 := G7_ok.add ⟨Try.f26, Try.func26, by kernel_rfl, by kernel_rfl⟩ v9x
def vvk : q5T → List AV := fun x => [.lst tWrite x.1, .own 0, .i x.2.1]
def vvy : q5T → St := fun x => [.arr tWrite x.2.2]
def vrb : Nat → Option LoopSpec
  | 0 => some (lpS [0, 3, 4] [] [.lst tWrite, .own 0, .i] [.arr tWrite] vh3 (fun p q => (p.1, p.2.2.1, q.1)) (fun k => (onE (exZ (.exit 0) vvk vvy) k)))
  | _ => none
theorem v3x : LpAt G8 ⟨0, 23, vrb⟩ Try.f15 0 :=
  vbw rfl (fun x => (n31n_bp0 x).p) vvk vvy (exZ (.exit 0) vvk vvy) (fun _ _ => ⟨rfl, rfl⟩) (fun z => by (intro h; cases h)) (fun _ _ => rfl) (fun x => by kernel_rfl)
theorem v8l : vae Try.prog 15 v6v :=
  vbt G8_ok follows (Try.f15.body.getD .skip) Try.func15 (by kernel_rfl) fun p q => ⟨vrb, (n31n_p _).p.map _, by rw [v19]; kernel_rfl, vad (ids := [0]) (by kernel_rfl) (by kernel_rfl) ⟨v3x, trivial⟩⟩
def G9 : Glob := G8.add 15 v6v
theorem G9_ok : GlobOk Try.prog G9 := G8_ok.add ⟨Try.f15, Try.func15, by kernel_rfl, by kernel_rfl⟩ v8l
def vzm : Nat → Option LoopSpec
  | _ => none
theorem v9s : vae Try.prog 25 v6y :=
  vbt G9_ok follows (Try.f25.body.getD .skip) Try.func25 (by kernel_rfl) fun p q => ⟨vzm, (n29n_p _).p.map _, by rw [v1l]; kernel_rfl, vad (ids := []) (by kernel_rfl) (by kernel_rfl) trivial⟩
def G10 : Glob := G9.add 25 v6y
theorem G10_ok : GlobOk Try.prog G10 := G9_ok.add ⟨Try.f25, Try.func25, by kernel_rfl, by kernel_rfl⟩ v9s
def vy8 : Nat → Option LoopSpec
  | _ => none
theorem v8g : vae Try.prog 85 v56 :=
  vbt G10_ok.shallow follows (Try.f85.body.getD .skip) Try.func85 (by kernel_rfl) fun p q => ⟨vy8, (n41n_p _).p.map _, by rw [v22]; kernel_rfl, vad (ids := []) (by kernel_rfl) (by kernel_rfl) trivial⟩
def G11 : Glob := G10.add 85 v56
theorem G11_ok : GlobOk Try.prog G11 := G10_ok.add ⟨Try.f85, Try.func85, by kernel_rfl, by kernel_rfl⟩ v8g
def vz5 : Nat → Option LoopSpec
  | _ => none
theorem v8r : vae Try.prog 145 v6e :=
  vbt G11_ok.shallow follows (Try.f145.body.getD .skip) Try.func145 (by kernel_rfl) fun p q => ⟨vz5, (n40n_p _ _ _).p.map _, by rw [v08]; kernel_rfl, vad (ids := []) (by kernel_rfl) (by kernel_rfl) trivial⟩
def G12 : Glob := G11.add 145 v6e
theorem G12_ok : GlobOk Try.prog G12 := G11_ok.add ⟨Try.f145, Try.func145, by kernel_rfl, by kernel_rfl⟩ v8r
def vo2 : (ByteArray × Bool × Int) → List AV := fun x => [.str x.1, .bool x.2.1, .i x.2.2]
def vm9 : (ByteArray × Bool × Int) → St := fun x => []
def vrk : Nat → Option LoopSpec
  | 0 => some (lpS [0, 2, 3] [] [.str, .bool, .i] [] vhc (fun p q => (p.1, p.2.1, p.2.2.1)) (fun k => (Sum.elim (onE (exZ .ret vo2 vm9) k) (onE (exZ (.exit 0) vo2 vm9) k))))
  | _ => none
theorem v4n : LpAt G12.shallow ⟨0, 23, vrk⟩ Try.f147 0 :=
  vbw rfl (fun x => (n33n_bp0 x).p) vo2 vm9 (Sum.elim ((exZ .ret vo2 vm9)) ((exZ (.exit 0) vo2 vm9))) (fun _ _ => ⟨rfl, rfl⟩) (fun z => by rcases z with z | z <;> (intro h; cases h)) (fun k z => by rcases z with z | z <;> rfl) (fun x => by kernel_rfl)
theorem v8j : vae Try.prog 147 v54 :=
  vbt G12_ok.shallow follows (Try.f147.body.getD .skip) Try.func147 (by kernel_rfl) fun p q => ⟨vrk, (n33n_p _).p.map _, by rw [v09]; kernel_rfl, vad (ids := [0]) (by kernel_rfl) (by kernel_rfl) ⟨v4n, trivial⟩⟩
def G13 : Glob := G12.add 147 v54
theorem G13_ok : GlobOk Try.prog G13 := G12_ok.add ⟨Try.f147, Try.func147, by kernel_rfl, by kernel_rfl⟩ v8j
def vzy : Nat → Option LoopSpec
  | _ => none
theorem v78 : vae Try.prog 87 v6b :=
  vbt G13_ok.shallow follows (Try.f87.body.getD .skip) Try.func87 (by kernel_rfl) fun p q => ⟨vzy, (n38n_p _).p.map _, by rw [v2p]; kernel_rfl, vad (ids := []) (by kernel_rfl) (by kernel_rfl) trivial⟩
def G14 : Glob := G13.add 87 v6b
theorem G14_ok : GlobOk Try.prog G14 := G13_ok.add ⟨Try.f87, Try.func87, by kernel_rfl, by kernel_rfl⟩ v78
def vnx : ((List vaa) × Bool × Int) → List AV := fun x => [.lst tWrite x.1, .bool x.2.1, .i x.2.2]
def vob : ((List vaa) × Bool × Int) → St := fun x => []
def vqa : Nat → Option LoopSpec
  | 0 => some (lpS [0, 2, 3] [] [.lst tWrite, .bool, .i] [] vib (fun p q => (p.1, p.2.1, p.2.2.1)) (fun k => (Sum.elim (onE (exZ .ret vnx vob) k) (onE (exZ (.exit 0) vnx vob) k))))
  | 2000004 => some ⟨[0, 2, 4, 6, 9, 10, 12, 14, 16, 18, 20, 22, 24, 26, 28, 30, 32, 34, 36, 38, 40, 42, 44, 46], [], fun _ _ _ => none⟩
  | _ => none
theorem v3r : LpAt G14.shallow ⟨0, 37, vqa⟩ Try.f89 0 :=
  vbw rfl (fun x => (n39n_bp0 x).p) vnx vob (Sum.elim ((exZ .ret vnx vob)) ((exZ (.exit 0) vnx vob))) (fun _ _ => ⟨rfl, rfl⟩) (fun z => by rcases z with z | z <;> (intro h; cases h)) (fun k z => by rcases z with z | z <;> rfl) (fun x => by kernel_rfl)
theorem v8d : vae Try.prog 89 v6o :=
  vbt G14_ok.shallow follows (Try.f89.body.getD .skip) Try.func89 (by kernel_rfl) fun p q => ⟨vqa, (n39n_p _).p.map _, by rw [v3b]; kernel_rfl, vad (ids := [0]) (by kernel_rfl) (by kernel_rfl) ⟨v3r, trivial⟩⟩
def G15 : Glob := G14.add 89 v6o
theorem G15_ok : GlobOk Try.prog G15 := G14_ok.add ⟨Try.f89, Try.func89, by kernel_rfl, by kernel_rfl⟩ v8d
def vzi : Nat → Option LoopSpec
  | _ => none
theorem v83 : vae Try.prog 146 v6g :=
  vbt G15_ok.shallow follows (Try.f146.body.getD .skip) Try.func146 (by kernel_rfl) fun p q => ⟨vzi, (n35n_p _).p.map _, by rw [v1d]; kernel_rfl, vad (ids := []) (by kernel_rfl) (by kernel_rfl) trivial⟩
def G16 : Glob := G15.add 146 v6g
theorem G16_ok : GlobOk Try.prog G16 := G15_ok.add ⟨Try.f146, Try.func146, by kernel_rfl, by kernel_rfl⟩ v83
def vff : q14T → List AV := fun x => [.bp 0 0, .bool x.1]
def vfu : q14T → St := fun x => [.box [.i x.2.1, .i x.2.2.1, .i x.2.2.2.1, .i x.2.2.2.2.1, .lst tRange x.2.2.2.2.2.1, .lst tWrite x.2.2.2.2.2.2.1, .bool x.2.2.2.2.2.2.2.1, .str x.2.2.2.2.2.2.2.2]]
def ve6 : q14T → List AV := fun x => [.bp 0 0, .bool x.1]
def ve5 : q14T → St := fun x => [.box [.i x.2.1, .i x.2.2.1, .i x.2.2.2.1, .i x.2.2.2.2.1, .lst tRange x.2.2.2.2.2.1, .lst tWrite x.2.2.2.2.2.2.1, .bool x.2.2.2.2.2.2.2.1, .str x.2.2.2.2.2.2.2.2]]
def vn0 : q17T → List AV := fun x => [.bp 0 0, .bool x.1, .i x.2.1]
def vow : q17T → St := fun x => let xh := x.2.2.2.2.2.2.2.2; [.box [.i x.2.2.1, .i x.2.2.2.1, .i x.2.2.2.2.1, .i x.2.2.2.2.2.1, .lst tRange x.2.2.2.2.2.2.1, .lst tWrite x.2.2.2.2.2.2.2.1, .bool xh.1, .str xh.2]]
def vfj : q14T → List AV := fun x => [.bp 0 0, .bool x.1]
def ve3 : q14T → St := fun x => [.box [.i x.2.1, .i x.2.2.1, .i x.2.2.2.1, .i x.2.2.2.2.1, .lst tRange x.2.2.2.2.2.1, .lst tWrite x.2.2.2.2.2.2.1, .bool x.2.2.2.2.2.2.2.1, .str x.2.2.2.2.2.2.2.2]]
def vf0 : Nat → Option LoopSpec
  | 5000012 => some (ctS [1, 2] [] [.bp 0 0, .bool] [.box [.i, .i, .i, .i, .lst tRange, .lst tWrite, .bool, .str]] vbb (fun p q => (p.2.1, q.1.1, q.1.2.1, q.1.2.2.1, q.1.2.2.2.1, q.1.2.2.2.2.1, q.1.2.2.2.2.2.1, q.1.2.2.2.2.2.2.1, q.1.2.2.2.2.2.2.2.1)) (fun k => (onE (exZ .ret vff vfu) k)))
  | 5000010 => some (ctS [1, 2] [] [.bp 0 0, .bool] [.box [.i, .i, .i, .i, .lst tRange, .lst tWrite, .bool, .str]] vbc (fun p q => (p.2.1, q.1.1, q.1.2.1, q.1.2.2.1, q.1.2.2.2.1, q.1.2.2.2.2.1, q.1.2.2.2.2.2.1, q.1.2.2.2.2.2.2.1, q.1.2.2.2.2.2.2.2.1)) (fun k => (onE (exZ .ret ve6 ve5) k)))
  | 0 => some (lpS [1, 2, 3] [] [.bp 0 0, .bool, .i] [.box [.i, .i, .i, .i, .lst tRange, .lst tWrite, .bool, .str]] vin (fun p q => (p.2.1, p.2.2.1, q.1.1, q.1.2.1, q.1.2.2.1, q.1.2.2.2.1, q.1.2.2.2.2.1, q.1.2.2.2.2.2.1, q.1.2.2.2.2.2.2.1, q.1.2.2.2.2.2.2.2.1)) (fun k => (Sum.elim (onE (exZ .ret vn0 vow) k) (onE (exZ (.exit 0) vn0 vow) k))))
  | 5000003 => some (ctS [1, 2] [] [.bp 0 0, .bool] [.box [.i, .i, .i, .i, .lst tRange, .lst tWrite, .bool, .str]] vcg (fun p q => (p.2.1, q.1.1, q.1.2.1, q.1.2.2.1, q.1.2.2.2.1, q.1.2.2.2.2.1, q.1.2.2.2.2.2.1, q.1.2.2.2.2.2.2.1, q.1.2.2.2.2.2.2.2.1)) (fun k => (onE (exZ .ret vfj ve3) k)))
  | _ => none
theorem vpg : CtAt G16.shallow ⟨0, 95, vf0⟩ Try.f86 5000012 :=
  vhd rfl (fun x => (n36n_jp5000012 x).p) vff vfu (exZ .ret vff vfu) (fun _ _ => ⟨rfl, rfl⟩) (fun _ _ => rfl) (fun x => by kernel_rfl)
theorem vo7 : CtAt G16.shallow ⟨0, 95, vf0⟩ Try.f86 5000010 :=
  vhd rfl (fun x => (n36n_jp5000010 x).p) ve6 ve5 (exZ .ret ve6 ve5) (fun _ _ => ⟨rfl, rfl⟩) (fun _ _ => rfl) (fun x => by kernel_rfl)
theorem v48 : LpAt G16.shallow ⟨0, 95, vf0⟩ Try.f86 0 :=
  vbw rfl (fun x => (n36n_bp0 x).p) vn0 vow (Sum.elim ((exZ .ret vn0 vow)) ((exZ (.exit 0) vn0 vow))) (fun _ _ => ⟨rfl, rfl⟩) (fun z => by rcases z with z | z <;> (intro h; cases h)) (fun k z => by rcases z with z | z <;> rfl) (fun x => by kernel_rfl)
theorem vpd : CtAt G16.shallow ⟨0, 95, vf0⟩ Try.f86 5000003 :=
  vhd rfl (fun x => (n36n_jp5000003 x).p) vfj ve3 (exZ .ret vfj ve3) (fun _ _ => ⟨rfl, rfl⟩) (fun _ _ => rfl) (fun x => by kernel_rfl)
theorem v9p : vae Try.prog 86 v6n :=
  vbt G16_ok.shallow follows (Try.f86.body.getD .skip) Try.func86 (by kernel_rfl) fun p q => ⟨vf0, (n36n_p _).p.map _, by rw [v25]; kernel_rfl, vad (ids := [5000012, 5000010, 0, 5000003]) (by kernel_rfl) (by kernel_rfl) ⟨vpg, ⟨vo7, ⟨v48, ⟨vpd, trivial⟩⟩⟩⟩⟩
def G17 : Glob := G16.add 86 v6n
theorem G17_ok : GlobOk Try.prog G17 := G16_ok.add ⟨Try.f86, Try.func86, by kernel_rfl, by kernel_rfl⟩ v9p
def vwq : q6T → List AV := fun x => [.lst tWrite x.1, .bp 0 0, .own 1, .i x.2.1]
def vv0 : q6T → St := fun x => [.box [.str x.2.2.1, .str x.2.2.2.1, .bool x.2.2.2.2.1], .arr tWrite x.2.2.2.2.2]
def vwb : q6T → List AV := fun x => [.lst tWrite x.1, .bp 0 0, .own 1, .i x.2.1]
def vwh : q6T → St := fun x => [.box [.str x.2.2.1, .str x.2.2.2.1, .bool x.2.2.2.2.1], .arr tWrite x.2.2.2.2.2]
def vlf : Nat → Option LoopSpec
  | 0 => some (lpS [0, 3, 5, 6] [] [.lst tWrite, .bp 0 0, .own 1, .i] [.box [.str, .str, .bool], .arr tWrite] vg9 (fun p q => (p.1, p.2.2.2.1, q.1.1, q.1.2.1, q.1.2.2.1, q.2.1)) (fun k => (onE (exZ (.exit 0) vwq vv0) k)))
  | 2 => some (lpS [0, 3, 5, 7] [] [.lst tWrite, .bp 0 0, .own 1, .i] [.box [.str, .str, .bool], .arr tWrite] vik (fun p q => (p.1, p.2.2.2.1, q.1.1, q.1.2.1, q.1.2.2.1, q.2.1)) (fun k => (onE (exZ (.exit 2) vwb vwh) k)))
  | 2000005 => some ⟨[0, 2, 4, 6, 8, 10, 12, 14], [], fun _ _ _ => none⟩
  | 2000011 => some ⟨[0, 2, 4, 6, 8, 10, 12, 14], [], fun _ _ _ => none⟩
  | _ => none
theorem v3n : LpAt G17.shallow ⟨0, 56, vlf⟩ Try.f88 0 :=
  vbw rfl (fun x => (n34n_bp0 x).p) vwq vv0 (exZ (.exit 0) vwq vv0) (fun _ _ => ⟨rfl, rfl⟩) (fun z => by (intro h; cases h)) (fun _ _ => rfl) (fun x => by kernel_rfl)
theorem v49 : LpAt G17.shallow ⟨0, 56, vlf⟩ Try.f88 2 :=
  vbw rfl (fun x => (n34n_bp2 x).p) vwb vwh (exZ (.exit 2) vwb vwh) (fun _ _ => ⟨rfl, rfl⟩) (fun z => by (intro h; cases h)) (fun _ _ => rfl) (fun x => by kernel_rfl)
theorem v9a : vae Try.prog 88 v6c :=
  vbt G17_ok.shallow follows (Try.f88.body.getD .skip) Try.func88 (by kernel_rfl) fun p q => ⟨vlf, (n34n_p _ _).p.map _, by rw [v1t]; kernel_rfl, vad (ids := [0, 2]) (by kernel_rfl) (by kernel_rfl) ⟨v3n, ⟨v49, trivial⟩⟩⟩
def G18 : Glob := G17.add 88 v6c
theorem G18_ok : GlobOk Try.prog G18 := G17_ok.add ⟨Try.f88, Try.func88, by kernel_rfl, by kernel_rfl⟩ v9a
def vft : q12T → List AV := fun x => [.bp 0 0, .bp 1 0, .bp 2 0, .bool x.1, .bp 3 0]
def vfd : q12T → St := fun x => let xh := x.2.2.2.2.2.2.2.2; let xhh := xh.2.2.2.2.2.2.2.2; let xhhh := xhh.2.2.2.2.2.2.2.2; [.box [.i x.2.1, .i x.2.2.1, .i x.2.2.2.1, .i x.2.2.2.2.1, .lst tRange x.2.2.2.2.2.1, .lst tWrite x.2.2.2.2.2.2.1, .bool x.2.2.2.2.2.2.2.1, .str xh.1], .box [.str xh.2.1, .str xh.2.2.1, .bool xh.2.2.2.1], .box [.i xh.2.2.2.2.1, .i xh.2.2.2.2.2.1, .i xh.2.2.2.2.2.2.1, .i xh.2.2.2.2.2.2.2.1, .own 4, .own 5, .bool xhh.1, .str xhh.2.1], .box [.i xhh.2.2.1, .i xhh.2.2.2.1, .i xhh.2.2.2.2.1, .i xhh.2.2.2.2.2.1, .own 6, .own 7, .bool xhh.2.2.2.2.2.2.1, .str xhh.2.2.2.2.2.2.2.1], .arr tRange xhhh.1, .arr tWrite xhhh.2.1, .arr tRange xhhh.2.2.1, .arr tWrite xhhh.2.2.2]
def vh8 : q13T → Out × List AV × St := fun z => let zh := z.2.2.2.2.2.2.2.2; let zhh := zh.2.2.2.2.2.2.2.2; let zhhh := zhh.2.2.2.2.2.2.2.2; (.ret, [.bp 0 0, .bp 1 0, .bp 2 0, .bool z.1, .bp 3 0], [.box [.i z.2.1, .i z.2.2.1, .i z.2.2.2.1, .i z.2.2.2.2.1, .lst tRange z.2.2.2.2.2.1, .lst tWrite z.2.2.2.2.2.2.1, .bool z.2.2.2.2.2.2.2.1, .str zh.1], .box [.str zh.2.1, .str zh.2.2.1, .bool zh.2.2.2.1], .box [.i zh.2.2.2.2.1, .i zh.2.2.2.2.2.1, .i zh.2.2.2.2.2.2.1, .i zh.2.2.2.2.2.2.2.1, .own 4, .own 5, .bool zhh.1, .str zhh.2.1], .box [.i zhh.2.2.1, .i zhh.2.2.2.1, .i zhh.2.2.2.2.1, .i zhh.2.2.2.2.2.1, .own 4, .own 5, .bool zhh.2.2.2.2.2.2.1, .str zhh.2.2.2.2.2.2.2.1], .arr tRange zhhh.1, .arr tWrite zhhh.2])
def vra : Nat → Option LoopSpec
  | 5000004 => some (ctS [2, 3, 4, 5, 6] [none, none, none, none, none, none, none, none, none, none, none, none, none, none, none, none, none, none, none, none, some tRange, some tWrite] [.bp 0 0, .bp 1 0, .bp 2 0, .bool, .bp 3 0] [.box [.i, .i, .i, .i, .lst tRange, .lst tWrite, .bool, .str], .box [.str, .str, .bool], .box [.i, .i, .i, .i, .own 4, .own 5, .bool, .str], .box [.i, .i, .i, .i, .own 6, .own 7, .bool, .str], .arr tRange, .arr tWrite, .arr tRange, .arr tWrite] vcl (fun p q => (p.2.2.2.1, q.1.1, q.1.2.1, q.1.2.2.1, q.1.2.2.2.1, q.1.2.2.2.2.1, q.1.2.2.2.2.2.1, q.1.2.2.2.2.2.2.1, q.1.2.2.2.2.2.2.2.1, q.2.1.1, q.2.1.2.1, q.2.1.2.2.1, q.2.2.1.1, q.2.2.1.2.1, q.2.2.1.2.2.1, q.2.2.1.2.2.2.1, q.2.2.1.2.2.2.2.2.2.1, q.2.2.1.2.2.2.2.2.2.2.1, q.2.2.2.1.1, q.2.2.2.1.2.1, q.2.2.2.1.2.2.1, q.2.2.2.1.2.2.2.1, q.2.2.2.1.2.2.2.2.2.2.1, q.2.2.2.1.2.2.2.2.2.2.2.1, q.2.2.2.2.1, q.2.2.2.2.2.1, q.2.2.2.2.2.2.1, q.2.2.2.2.2.2.2.1)) (fun k => (Sum.elim (onE vh8 k) (onE (exZ .ret vft vfd) k))))
  | _ => none
theorem vpb : CtAt G18.shallow ⟨0, 35, vra⟩ Try.f24 5000004 :=
  vhd rfl (fun x => (n37n_jp5000004 x).p) vft vfd (Sum.elim (vh8) ((exZ .ret vft vfd))) (fun _ _ => ⟨rfl, rfl⟩) (fun k z => by rcases z with z | z <;> rfl) (fun x => by kernel_rfl)
theorem v8s : vae Try.prog 24 v59 :=
  vbt G18_ok.shallow follows (Try.f24.body.getD .skip) Try.func24 (by kernel_rfl) fun p q => ⟨vra, (n37n_p _ _).p.map _, by rw [v2f]; kernel_rfl, vad (ids := [5000004]) (by kernel_rfl) (by kernel_rfl) ⟨vpb, trivial⟩⟩
def G19 : Glob := G18.add 24 v59
theorem G19_ok : GlobOk Try.prog G19 := G18_ok.add ⟨Try.f24, Try.func24, by kernel_rfl, by kernel_rfl⟩ v8s
def vz6 : Nat → Option LoopSpec
  | _ => none
theorem v9g : vae Try.prog 91 v55 :=
  vbt G19_ok follows (Try.f91.body.getD .skip) Try.func91 (by kernel_rfl) fun p q => ⟨vz6, (n07n_p _).p.map _, by rw [v0x]; kernel_rfl, vad (ids := []) (by kernel_rfl) (by kernel_rfl) trivial⟩
def G20 : Glob := G19.add 91 v55
theorem G20_ok : GlobOk Try.prog G20 := G19_ok.add ⟨Try.f91, Try.func91, by kernel_rfl, by kernel_rfl⟩ v9g
def vzl : Nat → Option LoopSpec
  | _ => none
theorem v86 : vae Try.prog 129 v6a :=
  vbt G20_ok follows (Try.f129.body.getD .skip) Try.func129 (by kernel_rfl) fun p q => ⟨vzl, (n08n_p _ _ _).p.map _, by rw [v0p]; kernel_rfl, vad (ids := []) (by kernel_rfl) (by kernel_rfl) trivial⟩
def G21 : Glob := G20.add 129 v6a
theorem G21_ok : GlobOk Try.prog G21 := G20_ok.add ⟨Try.f129, Try.func129, by kernel_rfl, by kernel_rfl⟩ v86
def vnr : (ByteArray × Bool × Int) → List AV := fun x => [.str x.1, .bool x.2.1, .i x.2.2]
def vna : (ByteArray × Bool × Int) → St := fun x => []
def vrm : Nat → Option LoopSpec
  | 0 => some (lpS [0, 2, 3] [] [.str, .bool, .i] [] vhq (fun p q => (p.1, p.2.1, p.2.2.1)) (fun k => (Sum.elim (onE (exZ .ret vnr vna) k) (onE (exZ (.exit 0) vnr vna) k))))
  | _ => none
theorem v3s : LpAt G21 ⟨0, 23, vrm⟩ Try.f128 0 :=
  vbw rfl (fun x => (n00n_bp0 x).p) vnr vna (Sum.elim ((exZ .ret vnr vna)) ((exZ (.exit 0) vnr vna))) (fun _ _ => ⟨rfl, rfl⟩) (fun z => by rcases z with z | z <;> (intro h; cases h)) (fun k z => by rcases z with z | z <;> rfl) (fun x => by kernel_rfl)
theorem v8v : vae Try.prog 128 v6l :=
  vbt G21_ok follows (Try.f128.body.getD .skip) Try.func128 (by kernel_rfl) fun p q => ⟨vrm, (n00n_p _).p.map _, by rw [v2g]; kernel_rfl, vad (ids := [0]) (by kernel_rfl) (by kernel_rfl) ⟨v3s, trivial⟩⟩
def G22 : Glob := G21.add 128 v6l
theorem G22_ok : GlobOk Try.prog G22 := G21_ok.add ⟨Try.f128, Try.func128, by kernel_rfl, by kernel_rfl⟩ v8v
def vz7 : Nat → Option LoopSpec
  | _ => none
theorem v9h : vae Try.prog 149 v6z :=
  vbt G22_ok follows (Try.f149.body.getD .skip) Try.func149 (by kernel_rfl) fun p q => ⟨vz7, (n02n_p _).p.map _, by rw [v1q]; kernel_rfl, vad (ids := []) (by kernel_rfl) (by kernel_rfl) trivial⟩
def G23 : Glob := G22.add 149 v6z
theorem G23_ok : GlobOk Try.prog G23 := G22_ok.add ⟨Try.f149, Try.func149, by kernel_rfl, by kernel_rfl⟩ v9h
def vzf : Nat → Option LoopSpec
  | _ => none
theorem v8i : vae Try.prog 93 v58 :=
  vbt G23_ok follows (Try.f93.body.getD .skip) Try.func93 (by kernel_rfl) fun p q => ⟨vzf, (n05n_p _).p.map _, by rw [v2l]; kernel_rfl, vad (ids := []) (by kernel_rfl) (by kernel_rfl) trivial⟩
def G24 : Glob := G23.add 93 v58
theorem G24_ok : GlobOk Try.prog G24 := G23_ok.add ⟨Try.f93, Try.func93, by kernel_rfl, by kernel_rfl⟩ v8i
def vn4 : q4T → List AV := fun x => [.lst tWrite x.1, .bool x.2.1, .lst tWrite x.2.2.1, .i x.2.2.2.1, .i x.2.2.2.2]
def vnz : q4T → St := fun x => []
def vqf : Nat → Option LoopSpec
  | 0 => some (lpS [0, 2, 5, 6, 7] [] [.lst tWrite, .bool, .lst tWrite, .i, .i] [] vha (fun p q => (p.1, p.2.1, p.2.2.1, p.2.2.2.1, p.2.2.2.2.1)) (fun k => (Sum.elim (onE (exZ .ret vn4 vnz) k) (onE (exZ (.exit 0) vn4 vnz) k))))
  | 2000004 => some ⟨[0, 3, 4, 6, 8, 10, 12, 14, 16, 18, 20, 22, 24, 26, 28, 30, 32, 34], [], fun _ _ _ => none⟩
  | _ => none
theorem v5d : LpAt G24 ⟨0, 34, vqf⟩ Try.f150 0 :=
  vbw rfl (fun x => (n06n_bp0 x).p) vn4 vnz (Sum.elim ((exZ .ret vn4 vnz)) ((exZ (.exit 0) vn4 vnz))) (fun _ _ => ⟨rfl, rfl⟩) (fun z => by rcases z with z | z <;> (intro h; cases h)) (fun k z => by rcases z with z | z <;> rfl) (fun x => by kernel_rfl)
theorem v8w : vae Try.prog 150 v6d :=
  vbt G24_ok follows (Try.f150.body.getD .skip) Try.func150 (by kernel_rfl) fun p q => ⟨vqf, (n06n_p _).p.map _, by rw [v3d]; kernel_rfl, vad (ids := [0]) (by kernel_rfl) (by kernel_rfl) ⟨v5d, trivial⟩⟩
def G25 : Glob := G24.add 150 v6d
theorem G25_ok : GlobOk Try.prog G25 := G24_ok.add ⟨Try.f150, Try.func150, by kernel_rfl, by kernel_rfl⟩ v8w
def vfn : q14T → List AV := fun x => [.bp 0 0, .bool x.1]
def vfr : q14T → St := fun x => [.box [.i x.2.1, .i x.2.2.1, .i x.2.2.2.1, .i x.2.2.2.2.1, .lst tRange x.2.2.2.2.2.1, .lst tWrite x.2.2.2.2.2.2.1, .bool x.2.2.2.2.2.2.2.1, .str x.2.2.2.2.2.2.2.2]]
def ve7 : q14T → List AV := fun x => [.bp 0 0, .bool x.1]
def vfm : q14T → St := fun x => [.box [.i x.2.1, .i x.2.2.1, .i x.2.2.2.1, .i x.2.2.2.2.1, .lst tRange x.2.2.2.2.2.1, .lst tWrite x.2.2.2.2.2.2.1, .bool x.2.2.2.2.2.2.2.1, .str x.2.2.2.2.2.2.2.2]]
def vnn : q9T → List AV := fun x => [.bp 0 0, .bool x.1, .lst tRange x.2.1, .i x.2.2.1, .i x.2.2.2.1]
def vm4 : q9T → St := fun x => let xh := x.2.2.2.2.2.2.2.2; [.box [.i x.2.2.2.2.1, .i x.2.2.2.2.2.1, .i x.2.2.2.2.2.2.1, .i x.2.2.2.2.2.2.2.1, .lst tRange xh.1, .lst tWrite xh.2.1, .bool xh.2.2.1, .str xh.2.2.2]]
def vix : Nat → Option LoopSpec
  | 5000011 => some (ctS [1, 2] [] [.bp 0 0, .bool] [.box [.i, .i, .i, .i, .lst tRange, .lst tWrite, .bool, .str]] vbe (fun p q => (p.2.1, q.1.1, q.1.2.1, q.1.2.2.1, q.1.2.2.2.1, q.1.2.2.2.2.1, q.1.2.2.2.2.2.1, q.1.2.2.2.2.2.2.1, q.1.2.2.2.2.2.2.2.1)) (fun k => (onE (exZ .ret vfn vfr) k)))
  | 5000009 => some (ctS [1, 2] [] [.bp 0 0, .bool] [.box [.i, .i, .i, .i, .lst tRange, .lst tWrite, .bool, .str]] vb0 (fun p q => (p.2.1, q.1.1, q.1.2.1, q.1.2.2.1, q.1.2.2.2.1, q.1.2.2.2.2.1, q.1.2.2.2.2.2.1, q.1.2.2.2.2.2.2.1, q.1.2.2.2.2.2.2.2.1)) (fun k => (onE (exZ .ret ve7 vfm) k)))
  | 0 => some (lpS [1, 2, 6, 7, 8] [] [.bp 0 0, .bool, .lst tRange, .i, .i] [.box [.i, .i, .i, .i, .lst tRange, .lst tWrite, .bool, .str]] vil (fun p q => (p.2.1, p.2.2.1, p.2.2.2.1, p.2.2.2.2.1, q.1.1, q.1.2.1, q.1.2.2.1, q.1.2.2.2.1, q.1.2.2.2.2.1, q.1.2.2.2.2.2.1, q.1.2.2.2.2.2.2.1, q.1.2.2.2.2.2.2.2.1)) (fun k => (Sum.elim (onE (exZ .ret vnn vm4) k) (onE (exZ (.exit 0) vnn vm4) k))))
  | _ => none
theorem vph : CtAt G25 ⟨0, 93, vix⟩ Try.f92 5000011 :=
  vhd rfl (fun x => (n03n_jp5000011 x).p) vfn vfr (exZ .ret vfn vfr) (fun _ _ => ⟨rfl, rfl⟩) (fun _ _ => rfl) (fun x => by kernel_rfl)
theorem vpn : CtAt G25 ⟨0, 93, vix⟩ Try.f92 5000009 :=
  vhd rfl (fun x => (n03n_jp5000009 x).p) ve7 vfm (exZ .ret ve7 vfm) (fun _ _ => ⟨rfl, rfl⟩) (fun _ _ => rfl) (fun x => by kernel_rfl)
theorem v5m : LpAt G25 ⟨0, 93, vix⟩ Try.f92 0 :=
  vbw rfl (fun x => (n03n_bp0 x).p) vnn vm4 (Sum.elim ((exZ .ret vnn vm4)) ((exZ (.exit 0) vnn vm4))) (fun _ _ => ⟨rfl, rfl⟩) (fun z => by rcases z with z | z <;> (intro h; cases h)) (fun k z => by rcases z with z | z <;> rfl) (fun x => by kernel_rfl)
theorem v8p : vae Try.prog 92 v6f :=
  vbt G25_ok follows (Try.f92.body.getD .skip) Try.func92 (by kernel_rfl) fun p q => ⟨vix, (n03n_p _).p.map _, by rw [v0f]; kernel_rfl, vad (ids := [5000011, 5000009, 0]) (by kernel_rfl) (by kernel_rfl) ⟨vph, ⟨vpn, ⟨v5m, trivial⟩⟩⟩⟩
def G26 : Glob := G25.add 92 v6f
theorem G26_ok : GlobOk Try.prog G26 := G25_ok.add ⟨Try.f92, Try.func92, by kernel_rfl, by kernel_rfl⟩ v8p
theorem vhm : vae Try.prog 151 vb9 := by
  intro args s k r hk
  unfold vb9 at hk
  rw [vxg] at hk
  unfold vqk at hk
  exact vsu Try.insLaya (by decide) (e := tWrite) rfl #[.string ⟨#[]⟩, .string ⟨#[]⟩, .bool false] rfl rfl args s k r hk
def G27 : Glob := G26.add 151 vb9
theorem G27_ok : GlobOk Try.prog G27 := G26_ok.add ⟨Try.f151, Try.func151, by kernel_rfl, by kernel_rfl⟩ vhm
def vfk : q20T → List AV := fun x => [.bp 0 0, .own 1, .i x.1]
def vfc : q20T → St := fun x => [.box [.str x.2.1, .str x.2.2.1, .bool x.2.2.2.1], .arr tWrite x.2.2.2.2]
def vvr : q20T → List AV := fun x => [.bp 0 0, .own 1, .i x.1]
def vvj : q20T → St := fun x => [.box [.str x.2.1, .str x.2.2.1, .bool x.2.2.2.1], .arr tWrite x.2.2.2.2]
def vlq : Nat → Option LoopSpec
  | 6000001 => some (ctS [3, 5, 6] [] [.bp 0 0, .own 1, .i] [.box [.str, .str, .bool], .arr tWrite] vc9 (fun p q => (p.2.2.1, q.1.1, q.1.2.1, q.1.2.2.1, q.2.1)) (fun k => (onE (exZ .norm vfk vfc) k)))
  | 0 => some (lpS [3, 5, 6] [] [.bp 0 0, .own 1, .i] [.box [.str, .str, .bool], .arr tWrite] vj6 (fun p q => (p.2.2.1, q.1.1, q.1.2.1, q.1.2.2.1, q.2.1)) (fun k => (onE (exZ (.exit 0) vvr vvj) k)))
  | 2000003 => some ⟨[0, 2, 4, 6, 8, 10, 12, 14, 16, 18, 20, 22, 24, 26], [], fun _ _ _ => none⟩
  | 2000005 => some ⟨[0, 2, 4, 6, 8, 10, 12, 14, 16, 18, 20, 22, 24, 26], [], fun _ _ _ => none⟩
  | _ => none
theorem vps : CtAt G27 ⟨0, 49, vlq⟩ Try.f94 6000001 :=
  vhd rfl (fun x => (n01n_jp6000001 x).p) vfk vfc (exZ .norm vfk vfc) (fun _ _ => ⟨rfl, rfl⟩) (fun _ _ => rfl) (fun x => by kernel_rfl)
theorem v3w : LpAt G27 ⟨0, 49, vlq⟩ Try.f94 0 :=
  vbw rfl (fun x => (n01n_bp0 x).p) vvr vvj (exZ (.exit 0) vvr vvj) (fun _ _ => ⟨rfl, rfl⟩) (fun z => by (intro h; cases h)) (fun _ _ => rfl) (fun x => by kernel_rfl)
theorem v8h : vae Try.prog 94 v6w :=
  vbt G27_ok follows (Try.f94.body.getD .skip) Try.func94 (by kernel_rfl) fun p q => ⟨vlq, (n01n_p _ _).p.map _, by rw [v1g]; kernel_rfl, vad (ids := [6000001, 0]) (by kernel_rfl) (by kernel_rfl) ⟨vps, ⟨v3w, trivial⟩⟩⟩
def G28 : Glob := G27.add 94 v6w
theorem G28_ok : GlobOk Try.prog G28 := G27_ok.add ⟨Try.f94, Try.func94, by kernel_rfl, by kernel_rfl⟩ v8h
def vfp : q12T → List AV := fun x => [.bp 0 0, .bp 1 0, .bp 2 0, .bool x.1, .bp 3 0]
def vfl : q12T → St := fun x => let xh := x.2.2.2.2.2.2.2.2; let xhh := xh.2.2.2.2.2.2.2.2; let xhhh := xhh.2.2.2.2.2.2.2.2; [.box [.i x.2.1, .i x.2.2.1, .i x.2.2.2.1, .i x.2.2.2.2.1, .lst tRange x.2.2.2.2.2.1, .lst tWrite x.2.2.2.2.2.2.1, .bool x.2.2.2.2.2.2.2.1, .str xh.1], .box [.str xh.2.1, .str xh.2.2.1, .bool xh.2.2.2.1], .box [.i xh.2.2.2.2.1, .i xh.2.2.2.2.2.1, .i xh.2.2.2.2.2.2.1, .i xh.2.2.2.2.2.2.2.1, .own 4, .own 5, .bool xhh.1, .str xhh.2.1], .box [.i xhh.2.2.1, .i xhh.2.2.2.1, .i xhh.2.2.2.2.1, .i xhh.2.2.2.2.2.1, .own 6, .own 7, .bool xhh.2.2.2.2.2.2.1, .str xhh.2.2.2.2.2.2.2.1], .arr tRange xhhh.1, .arr tWrite xhhh.2.1, .arr tRange xhhh.2.2.1, .arr tWrite xhhh.2.2.2]
def vh0 : q13T → Out × List AV × St := fun z => let zh := z.2.2.2.2.2.2.2.2; let zhh := zh.2.2.2.2.2.2.2.2; let zhhh := zhh.2.2.2.2.2.2.2.2; (.ret, [.bp 0 0, .bp 1 0, .bp 2 0, .bool z.1, .bp 3 0], [.box [.i z.2.1, .i z.2.2.1, .i z.2.2.2.1, .i z.2.2.2.2.1, .lst tRange z.2.2.2.2.2.1, .lst tWrite z.2.2.2.2.2.2.1, .bool z.2.2.2.2.2.2.2.1, .str zh.1], .box [.str zh.2.1, .str zh.2.2.1, .bool zh.2.2.2.1], .box [.i zh.2.2.2.2.1, .i zh.2.2.2.2.2.1, .i zh.2.2.2.2.2.2.1, .i zh.2.2.2.2.2.2.2.1, .own 4, .own 5, .bool zhh.1, .str zhh.2.1], .box [.i zhh.2.2.1, .i zhh.2.2.2.1, .i zhh.2.2.2.2.1, .i zhh.2.2.2.2.2.1, .own 4, .own 5, .bool zhh.2.2.2.2.2.2.1, .str zhh.2.2.2.2.2.2.2.1], .arr tRange zhhh.1, .arr tWrite zhhh.2])
def vp9 : Nat → Option LoopSpec
  | 5000004 => some (ctS [2, 3, 4, 5, 6] [none, none, none, none, none, none, none, none, none, none, none, none, none, none, none, none, none, none, none, none, some tRange, some tWrite] [.bp 0 0, .bp 1 0, .bp 2 0, .bool, .bp 3 0] [.box [.i, .i, .i, .i, .lst tRange, .lst tWrite, .bool, .str], .box [.str, .str, .bool], .box [.i, .i, .i, .i, .own 4, .own 5, .bool, .str], .box [.i, .i, .i, .i, .own 6, .own 7, .bool, .str], .arr tRange, .arr tWrite, .arr tRange, .arr tWrite] vce (fun p q => (p.2.2.2.1, q.1.1, q.1.2.1, q.1.2.2.1, q.1.2.2.2.1, q.1.2.2.2.2.1, q.1.2.2.2.2.2.1, q.1.2.2.2.2.2.2.1, q.1.2.2.2.2.2.2.2.1, q.2.1.1, q.2.1.2.1, q.2.1.2.2.1, q.2.2.1.1, q.2.2.1.2.1, q.2.2.1.2.2.1, q.2.2.1.2.2.2.1, q.2.2.1.2.2.2.2.2.2.1, q.2.2.1.2.2.2.2.2.2.2.1, q.2.2.2.1.1, q.2.2.2.1.2.1, q.2.2.2.1.2.2.1, q.2.2.2.1.2.2.2.1, q.2.2.2.1.2.2.2.2.2.2.1, q.2.2.2.1.2.2.2.2.2.2.2.1, q.2.2.2.2.1, q.2.2.2.2.2.1, q.2.2.2.2.2.2.1, q.2.2.2.2.2.2.2.1)) (fun k => (Sum.elim (onE vh0 k) (onE (exZ .ret vfp vfl) k))))
  | _ => none
theorem vpu : CtAt G28 ⟨0, 34, vp9⟩ Try.f27 5000004 :=
  vhd rfl (fun x => (n04n_jp5000004 x).p) vfp vfl (Sum.elim (vh0) ((exZ .ret vfp vfl))) (fun _ _ => ⟨rfl, rfl⟩) (fun k z => by rcases z with z | z <;> rfl) (fun x => by kernel_rfl)
theorem v8k : vae Try.prog 27 v6x :=
  vbt G28_ok follows (Try.f27.body.getD .skip) Try.func27 (by kernel_rfl) fun p q => ⟨vp9, (n04n_p _ _).p.map _, by rw [v0h]; kernel_rfl, vad (ids := [5000004]) (by kernel_rfl) (by kernel_rfl) ⟨vpu, trivial⟩⟩
def G29 : Glob := G28.add 27 v6x
theorem G29_ok : GlobOk Try.prog G29 := G28_ok.add ⟨Try.f27, Try.func27, by kernel_rfl, by kernel_rfl⟩ v8k
def vz9 : Nat → Option LoopSpec
  | _ => none
theorem v9d : vae Try.prog 152 v6t :=
  vbt G29_ok follows (Try.f152.body.getD .skip) Try.func152 (by kernel_rfl) fun p q => ⟨vz9, (n10n_p _ _).p.map _, by rw [v0j]; kernel_rfl, vad (ids := []) (by kernel_rfl) (by kernel_rfl) trivial⟩
def G30 : Glob := G29.add 152 v6t
theorem G30_ok : GlobOk Try.prog G30 := G29_ok.add ⟨Try.f152, Try.func152, by kernel_rfl, by kernel_rfl⟩ v9d
def vop : q0T → List AV := fun x => [.lst tRange x.1, .lst tRange x.2.1, .bool x.2.2.1, .i x.2.2.2]
def vn6 : q0T → St := fun x => []
def vqv : Nat → Option LoopSpec
  | 0 => some (lpS [0, 1, 4, 5] [] [.lst tRange, .lst tRange, .bool, .i] [] vig (fun p q => (p.1, p.2.1, p.2.2.1, p.2.2.2.1)) (fun k => (Sum.elim (onE (exZ .ret vop vn6) k) (onE (exZ (.exit 0) vop vn6) k))))
  | 2000006 => some ⟨[0, 2, 4, 6, 8, 10, 12, 14, 16, 18], [], fun _ _ _ => none⟩
  | _ => none
theorem v4r : LpAt G30 ⟨0, 27, vqv⟩ Try.f95 0 :=
  vbw rfl (fun x => (n11n_bp0 x).p) vop vn6 (Sum.elim ((exZ .ret vop vn6)) ((exZ (.exit 0) vop vn6))) (fun _ _ => ⟨rfl, rfl⟩) (fun z => by rcases z with z | z <;> (intro h; cases h)) (fun k z => by rcases z with z | z <;> rfl) (fun x => by kernel_rfl)
theorem v8o : vae Try.prog 95 v62 :=
  vbt G30_ok follows (Try.f95.body.getD .skip) Try.func95 (by kernel_rfl) fun p q => ⟨vqv, (n11n_p _ _).p.map _, by rw [v1y]; kernel_rfl, vad (ids := [0]) (by kernel_rfl) (by kernel_rfl) ⟨v4r, trivial⟩⟩
def G31 : Glob := G30.add 95 v62
theorem G31_ok : GlobOk Try.prog G31 := G30_ok.add ⟨Try.f95, Try.func95, by kernel_rfl, by kernel_rfl⟩ v8o
def vzj : Nat → Option LoopSpec
  | _ => none
theorem v9r : vae Try.prog 82 v5w :=
  vbt G31_ok follows (Try.f82.body.getD .skip) Try.func82 (by kernel_rfl) fun p q => ⟨vzj, (n13n_p _ _).p.map _, by rw [v1w]; kernel_rfl, vad (ids := []) (by kernel_rfl) (by kernel_rfl) trivial⟩
def G32 : Glob := G31.add 82 v5w
theorem G32_ok : GlobOk Try.prog G32 := G31_ok.add ⟨Try.f82, Try.func82, by kernel_rfl, by kernel_rfl⟩ v9r
def vof : q3T → List AV := fun x => [.lst tWrite x.1, .lst tWrite x.2.1, .bool x.2.2.1, .i x.2.2.2]
def vom : q3T → St := fun x => []
def vp2 : Nat → Option LoopSpec
  | 0 => some (lpS [0, 1, 4, 5] [] [.lst tWrite, .lst tWrite, .bool, .i] [] vhh (fun p q => (p.1, p.2.1, p.2.2.1, p.2.2.2.1)) (fun k => (Sum.elim (onE (exZ .ret vof vom) k) (onE (exZ (.exit 0) vof vom) k))))
  | 2000006 => some ⟨[0, 2, 4, 6, 8, 10, 12, 14, 16, 18], [], fun _ _ _ => none⟩
  | _ => none
theorem v4j : LpAt G32 ⟨0, 27, vp2⟩ Try.f18 0 :=
  vbw rfl (fun x => (n14n_bp0 x).p) vof vom (Sum.elim ((exZ .ret vof vom)) ((exZ (.exit 0) vof vom))) (fun _ _ => ⟨rfl, rfl⟩) (fun z => by rcases z with z | z <;> (intro h; cases h)) (fun k z => by rcases z with z | z <;> rfl) (fun x => by kernel_rfl)
theorem v87 : vae Try.prog 18 v63 :=
  vbt G32_ok follows (Try.f18.body.getD .skip) Try.func18 (by kernel_rfl) fun p q => ⟨vp2, (n14n_p _ _).p.map _, by rw [v1r]; kernel_rfl, vad (ids := [0]) (by kernel_rfl) (by kernel_rfl) ⟨v4j, trivial⟩⟩
def G33 : Glob := G32.add 18 v63
theorem G33_ok : GlobOk Try.prog G33 := G32_ok.add ⟨Try.f18, Try.func18, by kernel_rfl, by kernel_rfl⟩ v87
def vzx : Nat → Option LoopSpec
  | _ => none
theorem v9b : vae Try.prog 28 v6i :=
  vbt G33_ok follows (Try.f28.body.getD .skip) Try.func28 (by kernel_rfl) fun p q => ⟨vzx, (n12n_p _ _).p.map _, by rw [v0b]; kernel_rfl, vad (ids := []) (by kernel_rfl) (by kernel_rfl) trivial⟩
def G34 : Glob := G33.add 28 v6i
theorem G34_ok : GlobOk Try.prog G34 := G33_ok.add ⟨Try.f28, Try.func28, by kernel_rfl, by kernel_rfl⟩ v9b
def vww : (Int × ByteArray) → List AV := fun x => [.i x.1, .str x.2]
def vwo : (Int × ByteArray) → St := fun x => []
def vq0 : Nat → Option LoopSpec
  | 0 => some (lpS [0, 3] [] [.i, .str] [] vj8 (fun p q => (p.1, p.2.1)) (fun k => (onE (exZ (.exit 0) vww vwo) k)))
  | _ => none
theorem v4g : LpAt G34 ⟨0, 20, vq0⟩ Try.f83 0 :=
  vbw rfl (fun x => (n19n_bp0 x).p) vww vwo (exZ (.exit 0) vww vwo) (fun _ _ => ⟨rfl, rfl⟩) (fun z => by (intro h; cases h)) (fun _ _ => rfl) (fun x => by kernel_rfl)
theorem v8f : vae Try.prog 83 v64 :=
  vbt G34_ok follows (Try.f83.body.getD .skip) Try.func83 (by kernel_rfl) fun p q => ⟨vq0, (n19n_p _).p.map _, by rw [v3c]; kernel_rfl, vad (ids := [0]) (by kernel_rfl) (by kernel_rfl) ⟨v4g, trivial⟩⟩
def G35 : Glob := G34.add 83 v64
theorem G35_ok : GlobOk Try.prog G35 := G34_ok.add ⟨Try.f83, Try.func83, by kernel_rfl, by kernel_rfl⟩ v8f
def vv2 : (Int × Int × (List vab)) → List AV := fun x => [.own 0, .i x.1, .i x.2.1]
def vwt : (Int × Int × (List vab)) → St := fun x => [.arr tRange x.2.2]
def vqi : Nat → Option LoopSpec
  | 0 => some (lpS [0, 1, 5] [] [.own 0, .i, .i] [.arr tRange] vjj (fun p q => (p.2.1, p.2.2.1, q.1)) (fun k => (onE (exZ (.exit 0) vv2 vwt) k)))
  | _ => none
theorem v4m : LpAt G35 ⟨1, 29, vqi⟩ Try.f96 0 :=
  vbw rfl (fun x => (n18n_bp0 x).p) vv2 vwt (exZ (.exit 0) vv2 vwt) (fun _ _ => ⟨rfl, rfl⟩) (fun z => by (intro h; cases h)) (fun _ _ => rfl) (fun x => by kernel_rfl)
theorem vll : vae Try.prog 96 vf3 :=
  vbt G35_ok follows (Try.f96.body.getD .skip) Try.func96 (by kernel_rfl) fun p q => ⟨vqi, (n18n_p _ _).p.map _, by rw [v1k]; kernel_rfl, vad (ids := [0]) (by kernel_rfl) (by kernel_rfl) ⟨v4m, trivial⟩⟩
def G36 : Glob := G35.add 96 vf3
theorem G36_ok : GlobOk Try.prog G36 := G35_ok.add ⟨Try.f96, Try.func96, by kernel_rfl, by kernel_rfl⟩ vll
def vwp : (Int × Int × (List vaa)) → List AV := fun x => [.own 0, .i x.1, .i x.2.1]
def vv8 : (Int × Int × (List vaa)) → St := fun x => [.arr tWrite x.2.2]
def vq5 : Nat → Option LoopSpec
  | 0 => some (lpS [0, 1, 5] [] [.own 0, .i, .i] [.arr tWrite] vjy (fun p q => (p.2.1, p.2.2.1, q.1)) (fun k => (onE (exZ (.exit 0) vwp vv8) k)))
  | _ => none
theorem v4s : LpAt G36 ⟨1, 38, vq5⟩ Try.f20 0 :=
  vbw rfl (fun x => (n21n_bp0 x).p) vwp vv8 (exZ (.exit 0) vwp vv8) (fun _ _ => ⟨rfl, rfl⟩) (fun z => by (intro h; cases h)) (fun _ _ => rfl) (fun x => by kernel_rfl)
theorem vlh : vae Try.prog 20 vf7 :=
  vbt G36_ok follows (Try.f20.body.getD .skip) Try.func20 (by kernel_rfl) fun p q => ⟨vq5, (n21n_p _ _).p.map _, by rw [v03]; kernel_rfl, vad (ids := [0]) (by kernel_rfl) (by kernel_rfl) ⟨v4s, trivial⟩⟩
def G37 : Glob := G36.add 20 vf7
theorem G37_ok : GlobOk Try.prog G37 := G36_ok.add ⟨Try.f20, Try.func20, by kernel_rfl, by kernel_rfl⟩ vlh
def vy6 : Nat → Option LoopSpec
  | _ => none
theorem vpl : vae Try.prog 29 vja :=
  vbt G37_ok follows (Try.f29.body.getD .skip) Try.func29 (by kernel_rfl) fun p q => ⟨vy6, (n20n_p _ _ _ _ _ _ _ _ _).p.map _, by rw [v3h]; kernel_rfl, vad (ids := []) (by kernel_rfl) (by kernel_rfl) trivial⟩
def G38 : Glob := G37.add 29 vja
theorem G38_ok : GlobOk Try.prog G38 := G37_ok.add ⟨Try.f29, Try.func29, by kernel_rfl, by kernel_rfl⟩ vpl
def voi : q2T → List AV := fun x => [.lst tRange x.1, .i x.2.1, .i x.2.2.1, .i x.2.2.2]
def voe : q2T → St := fun x => []
def vqb : Nat → Option LoopSpec
  | 0 => some (lpS [0, 1, 4, 5] [] [.lst tRange, .i, .i, .i] [] vhy (fun p q => (p.1, p.2.1, p.2.2.1, p.2.2.2.1)) (fun k => (Sum.elim (onE (exZ .ret voi voe) k) (onE (exZ (.exit 0) voi voe) k))))
  | 2000004 => some ⟨[0, 2, 4, 6, 8, 10, 13, 14], [], fun _ _ _ => none⟩
  | 2000007 => some ⟨[0, 2, 4, 6, 8, 10, 13, 14], [], fun _ _ _ => none⟩
  | _ => none
theorem v30 : LpAt G38 ⟨0, 33, vqb⟩ Try.f97 0 :=
  vbw rfl (fun x => (n15n_bp0 x).p) voi voe (Sum.elim ((exZ .ret voi voe)) ((exZ (.exit 0) voi voe))) (fun _ _ => ⟨rfl, rfl⟩) (fun z => by rcases z with z | z <;> (intro h; cases h)) (fun k z => by rcases z with z | z <;> rfl) (fun x => by kernel_rfl)
theorem v9w : vae Try.prog 97 v57 :=
  vbt G38_ok follows (Try.f97.body.getD .skip) Try.func97 (by kernel_rfl) fun p q => ⟨vqb, (n15n_p _ _).p.map _, by rw [v0v]; kernel_rfl, vad (ids := [0]) (by kernel_rfl) (by kernel_rfl) ⟨v30, trivial⟩⟩
def G39 : Glob := G38.add 97 v57
theorem G39_ok : GlobOk Try.prog G39 := G38_ok.add ⟨Try.f97, Try.func97, by kernel_rfl, by kernel_rfl⟩ v9w
def vny : q7T → List AV := fun x => [.lst tWrite x.1, .i x.2.1, .i x.2.2.1, .i x.2.2.2]
def vnu : q7T → St := fun x => []
def vqp : Nat → Option LoopSpec
  | 0 => some (lpS [0, 1, 4, 5] [] [.lst tWrite, .i, .i, .i] [] vhl (fun p q => (p.1, p.2.1, p.2.2.1, p.2.2.2.1)) (fun k => (Sum.elim (onE (exZ .ret vny vnu) k) (onE (exZ (.exit 0) vny vnu) k))))
  | 2000004 => some ⟨[0, 2, 4, 6, 8, 10, 13, 14], [], fun _ _ _ => none⟩
  | 2000007 => some ⟨[0, 2, 4, 6, 8, 10, 13, 14], [], fun _ _ _ => none⟩
  | _ => none
theorem v4b : LpAt G39 ⟨0, 44, vqp⟩ Try.f98 0 :=
  vbw rfl (fun x => (n17n_bp0 x).p) vny vnu (Sum.elim ((exZ .ret vny vnu)) ((exZ (.exit 0) vny vnu))) (fun _ _ => ⟨rfl, rfl⟩) (fun z => by rcases z with z | z <;> (intro h; cases h)) (fun k z => by rcases z with z | z <;> rfl) (fun x => by kernel_rfl)
theorem v9k : vae Try.prog 98 v6k :=
  vbt G39_ok follows (Try.f98.body.getD .skip) Try.func98 (by kernel_rfl) fun p q => ⟨vqp, (n17n_p _ _).p.map _, by rw [v16]; kernel_rfl, vad (ids := [0]) (by kernel_rfl) (by kernel_rfl) ⟨v4b, trivial⟩⟩
def G40 : Glob := G39.add 98 v6k
theorem G40_ok : GlobOk Try.prog G40 := G39_ok.add ⟨Try.f98, Try.func98, by kernel_rfl, by kernel_rfl⟩ v9k
def vy9 : Nat → Option LoopSpec
  | _ => none
theorem v89 : vae Try.prog 30 v51 :=
  vbt G40_ok follows (Try.f30.body.getD .skip) Try.func30 (by kernel_rfl) fun p q => ⟨vy9, (n16n_p _ _).p.map _, by rw [v1v]; kernel_rfl, vad (ids := []) (by kernel_rfl) (by kernel_rfl) trivial⟩
def G41 : Glob := G40.add 30 v51
theorem G41_ok : GlobOk Try.prog G41 := G40_ok.add ⟨Try.f30, Try.func30, by kernel_rfl, by kernel_rfl⟩ v89
def ve4 : q18T → List AV := fun x => [.bool x.1, .bp 0 0, .i x.2.1]
def ve2 : q18T → St := fun x => let xh := x.2.2.2.2.2.2.2.2; [.box [.i x.2.2.1, .i x.2.2.2.1, .i x.2.2.2.2.1, .i x.2.2.2.2.2.1, .own 1, .own 2, .bool x.2.2.2.2.2.2.1, .str x.2.2.2.2.2.2.2.1], .arr tRange xh.1, .arr tWrite xh.2]
def ve8 : q11T → List AV := fun x => [.bp 0 0, .bp 1 0, .bool x.1, .bp 2 0, .bool x.2.1, .bp 3 0]
def vfi : q11T → St := fun x => let xh := x.2.2.2.2.2.2.2.2; let xhh := xh.2.2.2.2.2.2.2.2; let xhhh := xhh.2.2.2.2.2.2.2.2; [.box [.i x.2.2.1, .i x.2.2.2.1, .i x.2.2.2.2.1, .i x.2.2.2.2.2.1, .lst tRange x.2.2.2.2.2.2.1, .lst tWrite x.2.2.2.2.2.2.2.1, .bool xh.1, .str xh.2.1], .box [.str xh.2.2.1, .str xh.2.2.2.1, .bool xh.2.2.2.2.1], .box [.i xh.2.2.2.2.2.1, .i xh.2.2.2.2.2.2.1, .i xh.2.2.2.2.2.2.2.1, .i xhh.1, .own 4, .own 5, .bool xhh.2.1, .str xhh.2.2.1], .box [.i xhh.2.2.2.1, .i xhh.2.2.2.2.1, .i xhh.2.2.2.2.2.1, .i xhh.2.2.2.2.2.2.1, .own 6, .own 7, .bool xhh.2.2.2.2.2.2.2.1, .str xhhh.1], .arr tRange xhhh.2.1, .arr tWrite xhhh.2.2.1, .arr tRange xhhh.2.2.2.1, .arr tWrite xhhh.2.2.2.2]
def vh7 : q16T → Out × List AV × St := fun z => (.ret, [.dead, .dead, .bool z.1, .dead, .dead, .bp 0 0], [.box [.i z.2.1, .i z.2.2.1, .i z.2.2.2.1, .i z.2.2.2.2.1, .own 1, .own 2, .bool z.2.2.2.2.2.1, .str z.2.2.2.2.2.2.1], .arr tRange z.2.2.2.2.2.2.2.1, .arr tWrite z.2.2.2.2.2.2.2.2])
def vfa : q10T → List AV := fun x => [.bp 0 0, .bp 1 0, .bool x.1, .bp 2 0, .bool x.2.1, .bp 3 0, .bp 4 0, .bool x.2.2.1]
def vfs : q10T → St := fun x => let xh := x.2.2.2.2.2.2.2.2; let xhh := xh.2.2.2.2.2.2.2.2; let xhhh := xhh.2.2.2.2.2.2.2.2; let xhhhh := xhhh.2.2.2.2.2.2.2.2; [.box [.i x.2.2.2.1, .i x.2.2.2.2.1, .i x.2.2.2.2.2.1, .i x.2.2.2.2.2.2.1, .lst tRange x.2.2.2.2.2.2.2.1, .lst tWrite xh.1, .bool xh.2.1, .str xh.2.2.1], .box [.str xh.2.2.2.1, .str xh.2.2.2.2.1, .bool xh.2.2.2.2.2.1], .box [.i xh.2.2.2.2.2.2.1, .i xh.2.2.2.2.2.2.2.1, .i xhh.1, .i xhh.2.1, .own 5, .own 6, .bool xhh.2.2.1, .str xhh.2.2.2.1], .box [.i xhh.2.2.2.2.1, .i xhh.2.2.2.2.2.1, .i xhh.2.2.2.2.2.2.1, .i xhh.2.2.2.2.2.2.2.1, .own 7, .own 8, .bool xhhh.1, .str xhhh.2.1], .box [.i xhhh.2.2.1, .i xhhh.2.2.2.1, .i xhhh.2.2.2.2.1, .i xhhh.2.2.2.2.2.1, .own 9, .own 10, .bool xhhh.2.2.2.2.2.2.1, .str xhhh.2.2.2.2.2.2.2.1], .arr tRange xhhhh.1, .arr tWrite xhhhh.2.1, .arr tRange xhhhh.2.2.1, .arr tWrite xhhhh.2.2.2.1, .arr tRange xhhhh.2.2.2.2.1, .arr tWrite xhhhh.2.2.2.2.2]
def vij : q11T → Out × List AV × St := fun z => let zh := z.2.2.2.2.2.2.2.2; let zhh := zh.2.2.2.2.2.2.2.2; let zhhh := zhh.2.2.2.2.2.2.2.2; (.ret, [.bp 0 0, .bp 1 0, .bool z.1, .bp 2 0, .bool z.2.1, .dead, .bp 3 0, .dead], [.box [.i z.2.2.1, .i z.2.2.2.1, .i z.2.2.2.2.1, .i z.2.2.2.2.2.1, .lst tRange z.2.2.2.2.2.2.1, .lst tWrite z.2.2.2.2.2.2.2.1, .bool zh.1, .str zh.2.1], .box [.str zh.2.2.1, .str zh.2.2.2.1, .bool zh.2.2.2.2.1], .box [.i zh.2.2.2.2.2.1, .i zh.2.2.2.2.2.2.1, .i zh.2.2.2.2.2.2.2.1, .i zhh.1, .own 4, .own 5, .bool zhh.2.1, .str zhh.2.2.1], .box [.i zhh.2.2.2.1, .i zhh.2.2.2.2.1, .i zhh.2.2.2.2.2.1, .i zhh.2.2.2.2.2.2.1, .own 6, .own 7, .bool zhh.2.2.2.2.2.2.2.1, .str zhhh.1], .arr tRange zhhh.2.1, .arr tWrite zhhh.2.2.1, .arr tRange zhhh.2.2.2.1, .arr tWrite zhhh.2.2.2.2])
def vh2 : q16T → Out × List AV × St := fun z => (.ret, [.dead, .dead, .bool z.1, .dead, .dead, .dead, .bp 0 0, .dead], [.box [.i z.2.1, .i z.2.2.1, .i z.2.2.2.1, .i z.2.2.2.2.1, .own 1, .own 2, .bool z.2.2.2.2.2.1, .str z.2.2.2.2.2.2.1], .arr tRange z.2.2.2.2.2.2.2.1, .arr tWrite z.2.2.2.2.2.2.2.2])
def vir : Nat → Option LoopSpec
  | 5000030 => some (ctS [4, 9, 12] [] [.bool, .bp 0 0, .i] [.box [.i, .i, .i, .i, .own 1, .own 2, .bool, .str], .arr tRange, .arr tWrite] vcm (fun p q => (p.1, p.2.2.1, q.1.1, q.1.2.1, q.1.2.2.1, q.1.2.2.2.1, q.1.2.2.2.2.2.2.1, q.1.2.2.2.2.2.2.2.1, q.2.1, q.2.2.1)) (fun k => (onE (exZ .ret ve4 ve2) k)))
  | 5000019 => some (ctS [2, 3, 4, 6, 7, 9] [] [.bp 0 0, .bp 1 0, .bool, .bp 2 0, .bool, .bp 3 0] [.box [.i, .i, .i, .i, .lst tRange, .lst tWrite, .bool, .str], .box [.str, .str, .bool], .box [.i, .i, .i, .i, .own 4, .own 5, .bool, .str], .box [.i, .i, .i, .i, .own 6, .own 7, .bool, .str], .arr tRange, .arr tWrite, .arr tRange, .arr tWrite] vch (fun p q => (p.2.2.1, p.2.2.2.2.1, q.1.1, q.1.2.1, q.1.2.2.1, q.1.2.2.2.1, q.1.2.2.2.2.1, q.1.2.2.2.2.2.1, q.1.2.2.2.2.2.2.1, q.1.2.2.2.2.2.2.2.1, q.2.1.1, q.2.1.2.1, q.2.1.2.2.1, q.2.2.1.1, q.2.2.1.2.1, q.2.2.1.2.2.1, q.2.2.1.2.2.2.1, q.2.2.1.2.2.2.2.2.2.1, q.2.2.1.2.2.2.2.2.2.2.1, q.2.2.2.1.1, q.2.2.2.1.2.1, q.2.2.2.1.2.2.1, q.2.2.2.1.2.2.2.1, q.2.2.2.1.2.2.2.2.2.2.1, q.2.2.2.1.2.2.2.2.2.2.2.1, q.2.2.2.2.1, q.2.2.2.2.2.1, q.2.2.2.2.2.2.1, q.2.2.2.2.2.2.2.1)) (fun k => (Sum.elim (onE (exZ .ret ve8 vfi) k) (onE vh7 k))))
  | 5000013 => some (ctS [2, 3, 4, 6, 7, 8, 9, 10] [] [.bp 0 0, .bp 1 0, .bool, .bp 2 0, .bool, .bp 3 0, .bp 4 0, .bool] [.box [.i, .i, .i, .i, .lst tRange, .lst tWrite, .bool, .str], .box [.str, .str, .bool], .box [.i, .i, .i, .i, .own 5, .own 6, .bool, .str], .box [.i, .i, .i, .i, .own 7, .own 8, .bool, .str], .box [.i, .i, .i, .i, .own 9, .own 10, .bool, .str], .arr tRange, .arr tWrite, .arr tRange, .arr tWrite, .arr tRange, .arr tWrite] vcf (fun p q => (p.2.2.1, p.2.2.2.2.1, p.2.2.2.2.2.2.2.1, q.1.1, q.1.2.1, q.1.2.2.1, q.1.2.2.2.1, q.1.2.2.2.2.1, q.1.2.2.2.2.2.1, q.1.2.2.2.2.2.2.1, q.1.2.2.2.2.2.2.2.1, q.2.1.1, q.2.1.2.1, q.2.1.2.2.1, q.2.2.1.1, q.2.2.1.2.1, q.2.2.1.2.2.1, q.2.2.1.2.2.2.1, q.2.2.1.2.2.2.2.2.2.1, q.2.2.1.2.2.2.2.2.2.2.1, q.2.2.2.1.1, q.2.2.2.1.2.1, q.2.2.2.1.2.2.1, q.2.2.2.1.2.2.2.1, q.2.2.2.1.2.2.2.2.2.2.1, q.2.2.2.1.2.2.2.2.2.2.2.1, q.2.2.2.2.1.1, q.2.2.2.2.1.2.1, q.2.2.2.2.1.2.2.1, q.2.2.2.2.1.2.2.2.1, q.2.2.2.2.1.2.2.2.2.2.2.1, q.2.2.2.2.1.2.2.2.2.2.2.2.1, q.2.2.2.2.2.1, q.2.2.2.2.2.2.1, q.2.2.2.2.2.2.2.1, q.2.2.2.2.2.2.2.2.1, q.2.2.2.2.2.2.2.2.2.1, q.2.2.2.2.2.2.2.2.2.2.1)) (fun k => (Sum.elim (onE (exZ .ret vfa vfs) k) (Sum.elim (onE vij k) (onE vh2 k)))))
  | _ => none
theorem vpo : CtAt G41 ⟨0, 109, vir⟩ Try.f4 5000030 :=
  vhd rfl (fun x => (n09n_jp5000030 x).p) ve4 ve2 (exZ .ret ve4 ve2) (fun _ _ => ⟨rfl, rfl⟩) (fun _ _ => rfl) (fun x => by kernel_rfl)
theorem vpi : CtAt G41 ⟨0, 109, vir⟩ Try.f4 5000019 :=
  vhd rfl (fun x => (n09n_jp5000019 x).p) ve8 vfi (Sum.elim ((exZ .ret ve8 vfi)) (vh7)) (fun _ _ => ⟨rfl, rfl⟩) (fun k z => by rcases z with z | z <;> rfl) (fun x => by kernel_rfl)
theorem vpa : CtAt G41 ⟨0, 109, vir⟩ Try.f4 5000013 :=
  vhd rfl (fun x => (n09n_jp5000013 x).p) vfa vfs (Sum.elim ((exZ .ret vfa vfs)) (Sum.elim (vij) (vh2))) (fun _ _ => ⟨rfl, rfl⟩) (fun k z => by rcases z with z | z | z <;> rfl) (fun x => by kernel_rfl)
theorem v61 : vae Try.prog 4 v1u :=
  vbt G41_ok follows (Try.f4.body.getD .skip) Try.func4 (by kernel_rfl) fun p q => ⟨vir, (n09n_p _ _).p.map _, by rw [v0i]; kernel_rfl, vad (ids := [5000030, 5000019, 5000013]) (by kernel_rfl) (by kernel_rfl) ⟨vpo, ⟨vpi, ⟨vpa, trivial⟩⟩⟩⟩
def G42 : Glob := G41.add 4 v1u
theorem v97 : GlobOk Try.prog G42 := G41_ok.add ⟨Try.f4, Try.func4, by kernel_rfl, by kernel_rfl⟩ v61
end
end Go.VE
