/- Each function told by its native program; written by gen.py. -/
import Derived.Test.YteolgjmeigifbaaPutKeyS0
namespace Go.VE
open Go.Proofs
noncomputable section
set_option linter.unusedVariables false
set_option linter.unusedSimpArgs false
set_option maxRecDepth 100000
def v68 : Nat → Option LoopSpec
  | _ => none
theorem wkf : vad Try.prog 66 wfm :=
  vao G0_ok follows (Try.f66.body.getD .skip) Try.func66 (by kernel_rfl) fun p q => ⟨v68, (n45n_p _ _).p.map _, by rw [v81]; kernel_rfl, vab (ids := []) (by kernel_rfl) (by kernel_rfl) trivial⟩
def G1 : Glob := G0.add 66 wfm
theorem G1_ok : GlobOk Try.prog G1 := G0_ok.add ⟨Try.f66, Try.func66, by kernel_rfl, by kernel_rfl⟩ wkf
def vpt : q10T → List AV := fun x => [.lst tVersion x.1, .i x.2.1, .i x.2.2.1, .i x.2.2.2]
def vq8 : q10T → St := fun x => []
def vue : Nat → Option LoopSpec
  | 0 => some (lpS [0, 1, 4, 5] [] [.lst tVersion, .i, .i, .i] [] vjk (fun p q => (p.1, p.2.1, p.2.2.1, p.2.2.2.1)) (fun k => (Sum.elim (onE (exZ .ret vpt vq8) k) (onE (exZ (.exit 0) vpt vq8) k))))
  | _ => none
theorem wcw : LpAt G1 ⟨0, 27, vue⟩ Try.f10 0 :=
  vaw rfl (fun x => (n46n_bp0 x).p) vpt vq8 (Sum.elim ((exZ .ret vpt vq8)) ((exZ (.exit 0) vpt vq8))) (fun _ _ => ⟨rfl, rfl⟩) (fun z => by rcases z with z | z <;> (intro h; cases h)) (fun k z => by rcases z with z | z <;> rfl) (fun x => by kernel_rfl)
theorem wi1 : vad Try.prog 10 wgo :=
  vao G1_ok follows (Try.f10.body.getD .skip) Try.func10 (by kernel_rfl) fun p q => ⟨vue, (n46n_p _ _).p.map _, by rw [v7p]; kernel_rfl, vab (ids := [0]) (by kernel_rfl) (by kernel_rfl) ⟨wcw, trivial⟩⟩
def G2 : Glob := G1.add 10 wgo
theorem G2_ok : GlobOk Try.prog G2 := G1_ok.add ⟨Try.f10, Try.func10, by kernel_rfl, by kernel_rfl⟩ wi1
def v7g : Nat → Option LoopSpec
  | _ => none
theorem wk4 : vad Try.prog 11 wgf :=
  vao G2_ok follows (Try.f11.body.getD .skip) Try.func11 (by kernel_rfl) fun p q => ⟨v7g, (n41n_p _ _).p.map _, by rw [v8j]; kernel_rfl, vab (ids := []) (by kernel_rfl) (by kernel_rfl) trivial⟩
def G3 : Glob := G2.add 11 wgf
theorem G3_ok : GlobOk Try.prog G3 := G2_ok.add ⟨Try.f11, Try.func11, by kernel_rfl, by kernel_rfl⟩ wk4
def vsb : q2T → List AV := fun x => [.lst tRange x.1, .i x.2.1, .i x.2.2.1, .i x.2.2.2]
def vro : q2T → St := fun x => []
def vvt : Nat → Option LoopSpec
  | 0 => some (lpS [0, 1, 4, 5] [] [.lst tRange, .i, .i, .i] [] vjm (fun p q => (p.1, p.2.1, p.2.2.1, p.2.2.2.1)) (fun k => (Sum.elim (onE (exZ .ret vsb vro) k) (onE (exZ (.exit 0) vsb vro) k))))
  | _ => none
theorem wff : LpAt G3 ⟨0, 27, vvt⟩ Try.f64 0 :=
  vaw rfl (fun x => (n42n_bp0 x).p) vsb vro (Sum.elim ((exZ .ret vsb vro)) ((exZ (.exit 0) vsb vro))) (fun _ _ => ⟨rfl, rfl⟩) (fun z => by rcases z with z | z <;> (intro h; cases h)) (fun k z => by rcases z with z | z <;> rfl) (fun x => by kernel_rfl)
theorem wlj : vad Try.prog 64 wgq :=
  vao G3_ok follows (Try.f64.body.getD .skip) Try.func64 (by kernel_rfl) fun p q => ⟨vvt, (n42n_p _ _).p.map _, by rw [v7u]; kernel_rfl, vab (ids := [0]) (by kernel_rfl) (by kernel_rfl) ⟨wff, trivial⟩⟩
def G4 : Glob := G3.add 64 wgq
theorem G4_ok : GlobOk Try.prog G4 := G3_ok.add ⟨Try.f64, Try.func64, by kernel_rfl, by kernel_rfl⟩ wlj
def v7j : Nat → Option LoopSpec
  | _ => none
theorem wji : vad Try.prog 49 wfz :=
  vao G4_ok follows (Try.f49.body.getD .skip) Try.func49 (by kernel_rfl) fun p q => ⟨v7j, (n47n_p _ _).p.map _, by rw [v9w]; kernel_rfl, vab (ids := []) (by kernel_rfl) (by kernel_rfl) trivial⟩
def G5 : Glob := G4.add 49 wfz
theorem G5_ok : GlobOk Try.prog G5 := G4_ok.add ⟨Try.f49, Try.func49, by kernel_rfl, by kernel_rfl⟩ wji
def vrd : q15T → List AV := fun x => [.lst tWrite x.1, .i x.2.1, .i x.2.2.1, .i x.2.2.2]
def vqm : q15T → St := fun x => []
def vvd : Nat → Option LoopSpec
  | 0 => some (lpS [0, 1, 4, 5] [] [.lst tWrite, .i, .i, .i] [] vj3 (fun p q => (p.1, p.2.1, p.2.2.1, p.2.2.2.1)) (fun k => (Sum.elim (onE (exZ .ret vrd vqm) k) (onE (exZ (.exit 0) vrd vqm) k))))
  | _ => none
theorem wdd : LpAt G5 ⟨0, 27, vvd⟩ Try.f65 0 :=
  vaw rfl (fun x => (n48n_bp0 x).p) vrd vqm (Sum.elim ((exZ .ret vrd vqm)) ((exZ (.exit 0) vrd vqm))) (fun _ _ => ⟨rfl, rfl⟩) (fun z => by rcases z with z | z <;> (intro h; cases h)) (fun k z => by rcases z with z | z <;> rfl) (fun x => by kernel_rfl)
theorem wlt : vad Try.prog 65 whj :=
  vao G5_ok follows (Try.f65.body.getD .skip) Try.func65 (by kernel_rfl) fun p q => ⟨vvd, (n48n_p _ _).p.map _, by rw [v9r]; kernel_rfl, vab (ids := [0]) (by kernel_rfl) (by kernel_rfl) ⟨wdd, trivial⟩⟩
def G6 : Glob := G5.add 65 whj
theorem G6_ok : GlobOk Try.prog G6 := G5_ok.add ⟨Try.f65, Try.func65, by kernel_rfl, by kernel_rfl⟩ wlt
def v6w : Nat → Option LoopSpec
  | _ => none
theorem wkm : vad Try.prog 9 wgx :=
  vao G6_ok follows (Try.f9.body.getD .skip) Try.func9 (by kernel_rfl) fun p q => ⟨v6w, (n43n_p _ _).p.map _, by rw [v8m]; kernel_rfl, vab (ids := []) (by kernel_rfl) (by kernel_rfl) trivial⟩
def G7 : Glob := G6.add 9 wgx
theorem G7_ok : GlobOk Try.prog G7 := G6_ok.add ⟨Try.f9, Try.func9, by kernel_rfl, by kernel_rfl⟩ wkm
def vrz : q7T → List AV := fun x => [.lst tTxn x.1, .i x.2.1, .i x.2.2.1, .i x.2.2.2]
def vr4 : q7T → St := fun x => []
def vut : Nat → Option LoopSpec
  | 0 => some (lpS [0, 1, 4, 5] [] [.lst tTxn, .i, .i, .i] [] vkl (fun p q => (p.1, p.2.1, p.2.2.1, p.2.2.2.1)) (fun k => (Sum.elim (onE (exZ .ret vrz vr4) k) (onE (exZ (.exit 0) vrz vr4) k))))
  | _ => none
theorem wd3 : LpAt G7 ⟨0, 27, vut⟩ Try.f128 0 :=
  vaw rfl (fun x => (n44n_bp0 x).p) vrz vr4 (Sum.elim ((exZ .ret vrz vr4)) ((exZ (.exit 0) vrz vr4))) (fun _ _ => ⟨rfl, rfl⟩) (fun z => by rcases z with z | z <;> (intro h; cases h)) (fun k z => by rcases z with z | z <;> rfl) (fun x => by kernel_rfl)
theorem wjh : vad Try.prog 128 wg5 :=
  vao G7_ok follows (Try.f128.body.getD .skip) Try.func128 (by kernel_rfl) fun p q => ⟨vut, (n44n_p _ _).p.map _, by rw [wac]; kernel_rfl, vab (ids := [0]) (by kernel_rfl) (by kernel_rfl) ⟨wd3, trivial⟩⟩
def G8 : Glob := G7.add 128 wg5
theorem G8_ok : GlobOk Try.prog G8 := G7_ok.add ⟨Try.f128, Try.func128, by kernel_rfl, by kernel_rfl⟩ wjh
def v5z : Nat → Option LoopSpec
  | _ => none
theorem wku : vad Try.prog 59 wgm :=
  vao G8_ok follows (Try.f59.body.getD .skip) Try.func59 (by kernel_rfl) fun p q => ⟨v5z, (n39n_p _ _).p.map _, by rw [v78]; kernel_rfl, vab (ids := []) (by kernel_rfl) (by kernel_rfl) trivial⟩
def G9 : Glob := G8.add 59 wgm
theorem G9_ok : GlobOk Try.prog G9 := G8_ok.add ⟨Try.f59, Try.func59, by kernel_rfl, by kernel_rfl⟩ wku
def v51 : Nat → Option LoopSpec
  | _ => none
theorem wkv : vad Try.prog 48 wg3 :=
  vao G9_ok follows (Try.f48.body.getD .skip) Try.func48 (by kernel_rfl) fun p q => ⟨v51, (n40n_p _ _).p.map _, by rw [v7v]; kernel_rfl, vab (ids := []) (by kernel_rfl) (by kernel_rfl) trivial⟩
def G10 : Glob := G9.add 48 wg3
theorem G10_ok : GlobOk Try.prog G10 := G9_ok.add ⟨Try.f48, Try.func48, by kernel_rfl, by kernel_rfl⟩ wkv
def v6u : Nat → Option LoopSpec
  | _ => none
theorem wja : vad Try.prog 70 wgl :=
  vao G10_ok follows (Try.f70.body.getD .skip) Try.func70 (by kernel_rfl) fun p q => ⟨v6u, (n55n_p _).p.map _, by rw [v9o]; kernel_rfl, vab (ids := []) (by kernel_rfl) (by kernel_rfl) trivial⟩
def G11 : Glob := G10.add 70 wgl
theorem G11_ok : GlobOk Try.prog G11 := G10_ok.add ⟨Try.f70, Try.func70, by kernel_rfl, by kernel_rfl⟩ wja
def v2g : q9T → List AV := fun x => [.lst tVersion x.1, .own 0, .i x.2.1]
def v0w : q9T → St := fun x => [.arr tVersion x.2.2]
def vur : Nat → Option LoopSpec
  | 0 => some (lpS [0, 3, 4] [] [.lst tVersion, .own 0, .i] [.arr tVersion] vj6 (fun p q => (p.1, p.2.2.1, q.1)) (fun k => (onE (exZ (.exit 0) v2g v0w) k)))
  | _ => none
theorem wdq : LpAt G11 ⟨0, 23, vur⟩ Try.f14 0 :=
  vaw rfl (fun x => (n56n_bp0 x).p) v2g v0w (exZ (.exit 0) v2g v0w) (fun _ _ => ⟨rfl, rfl⟩) (fun z => by (intro h; cases h)) (fun _ _ => rfl) (fun x => by kernel_rfl)
theorem wkg : vad Try.prog 14 wf0 :=
  vao G11_ok follows (Try.f14.body.getD .skip) Try.func14 (by kernel_rfl) fun p q => ⟨vur, (n56n_p _).p.map _, by rw [wbi]; kernel_rfl, vab (ids := [0]) (by kernel_rfl) (by kernel_rfl) ⟨wdq, trivial⟩⟩
def G12 : Glob := G11.add 14 wf0
theorem G12_ok : GlobOk Try.prog G12 := G11_ok.add ⟨Try.f14, Try.func14, by kernel_rfl, by kernel_rfl⟩ wkg
def v64 : Nat → Option LoopSpec
  | _ => none
theorem wle : vad Try.prog 15 wgg :=
  vao G12_ok follows (Try.f15.body.getD .skip) Try.func15 (by kernel_rfl) fun p q => ⟨v64, (n51n_p _).p.map _, by rw [v7o]; kernel_rfl, vab (ids := []) (by kernel_rfl) (by kernel_rfl) trivial⟩
def G13 : Glob := G12.add 15 wgg
theorem G13_ok : GlobOk Try.prog G13 := G12_ok.add ⟨Try.f15, Try.func15, by kernel_rfl, by kernel_rfl⟩ wle
def v2h : q1T → List AV := fun x => [.lst tRange x.1, .own 0, .i x.2.1]
def v05 : q1T → St := fun x => [.arr tRange x.2.2]
def vui : Nat → Option LoopSpec
  | 0 => some (lpS [0, 3, 4] [] [.lst tRange, .own 0, .i] [.arr tRange] vi6 (fun p q => (p.1, p.2.2.1, q.1)) (fun k => (onE (exZ (.exit 0) v2h v05) k)))
  | _ => none
theorem wfh : LpAt G13 ⟨0, 23, vui⟩ Try.f68 0 :=
  vaw rfl (fun x => (n52n_bp0 x).p) v2h v05 (exZ (.exit 0) v2h v05) (fun _ _ => ⟨rfl, rfl⟩) (fun z => by (intro h; cases h)) (fun _ _ => rfl) (fun x => by kernel_rfl)
theorem wjw : vad Try.prog 68 wfp :=
  vao G13_ok follows (Try.f68.body.getD .skip) Try.func68 (by kernel_rfl) fun p q => ⟨vui, (n52n_p _).p.map _, by rw [v8b]; kernel_rfl, vab (ids := [0]) (by kernel_rfl) (by kernel_rfl) ⟨wfh, trivial⟩⟩
def G14 : Glob := G13.add 68 wfp
theorem G14_ok : GlobOk Try.prog G14 := G13_ok.add ⟨Try.f68, Try.func68, by kernel_rfl, by kernel_rfl⟩ wjw
def v7b : Nat → Option LoopSpec
  | _ => none
theorem wi7 : vad Try.prog 52 wgv :=
  vao G14_ok follows (Try.f52.body.getD .skip) Try.func52 (by kernel_rfl) fun p q => ⟨v7b, (n57n_p _).p.map _, by rw [wbo]; kernel_rfl, vab (ids := []) (by kernel_rfl) (by kernel_rfl) trivial⟩
def G15 : Glob := G14.add 52 wgv
theorem G15_ok : GlobOk Try.prog G15 := G14_ok.add ⟨Try.f52, Try.func52, by kernel_rfl, by kernel_rfl⟩ wi7
def v1k : q13T → List AV := fun x => [.lst tWrite x.1, .own 0, .i x.2.1]
def v1p : q13T → St := fun x => [.arr tWrite x.2.2]
def vt7 : Nat → Option LoopSpec
  | 0 => some (lpS [0, 3, 4] [] [.lst tWrite, .own 0, .i] [.arr tWrite] vjp (fun p q => (p.1, p.2.2.1, q.1)) (fun k => (onE (exZ (.exit 0) v1k v1p) k)))
  | _ => none
theorem we9 : LpAt G15 ⟨0, 23, vt7⟩ Try.f69 0 :=
  vaw rfl (fun x => (n58n_bp0 x).p) v1k v1p (exZ (.exit 0) v1k v1p) (fun _ _ => ⟨rfl, rfl⟩) (fun z => by (intro h; cases h)) (fun _ _ => rfl) (fun x => by kernel_rfl)
theorem wkd : vad Try.prog 69 wge :=
  vao G15_ok follows (Try.f69.body.getD .skip) Try.func69 (by kernel_rfl) fun p q => ⟨vt7, (n58n_p _).p.map _, by rw [wbf]; kernel_rfl, vab (ids := [0]) (by kernel_rfl) (by kernel_rfl) ⟨we9, trivial⟩⟩
def G16 : Glob := G15.add 69 wge
theorem G16_ok : GlobOk Try.prog G16 := G15_ok.add ⟨Try.f69, Try.func69, by kernel_rfl, by kernel_rfl⟩ wkd
def v50 : Nat → Option LoopSpec
  | _ => none
theorem wjx : vad Try.prog 13 wg4 :=
  vao G16_ok follows (Try.f13.body.getD .skip) Try.func13 (by kernel_rfl) fun p q => ⟨v50, (n53n_p _).p.map _, by rw [v8k]; kernel_rfl, vab (ids := []) (by kernel_rfl) (by kernel_rfl) trivial⟩
def G17 : Glob := G16.add 13 wg4
theorem G17_ok : GlobOk Try.prog G17 := G16_ok.add ⟨Try.f13, Try.func13, by kernel_rfl, by kernel_rfl⟩ wjx
def v1c : q4T → List AV := fun x => [.lst tTxn x.1, .own 0, .i x.2.1]
def v0n : q4T → St := fun x => [.dep tTxn x.2.2 0]
def vv4 : Nat → Option LoopSpec
  | 0 => some (lpS [0, 3, 4] [] [.lst tTxn, .own 0, .i] [.dep tTxn 0] vkj (fun p q => (p.1, p.2.2.1, q.1)) (fun k => (onE (exZ (.exit 0) v1c v0n) k)))
  | _ => none
theorem wcz : LpAt G17 ⟨0, 23, vv4⟩ Try.f131 0 :=
  vaw rfl (fun x => (n54n_bp0 x).p) v1c v0n (exZ (.exit 0) v1c v0n) (fun _ _ => ⟨rfl, rfl⟩) (fun z => by (intro h; cases h)) (fun _ _ => rfl) (fun x => by kernel_rfl)
theorem wjz : vad Try.prog 131 whm :=
  vao G17_ok follows (Try.f131.body.getD .skip) Try.func131 (by kernel_rfl) fun p q => ⟨vv4, (n54n_p _).p.map _, by rw [waj]; kernel_rfl, vab (ids := [0]) (by kernel_rfl) (by kernel_rfl) ⟨wcz, trivial⟩⟩
def G18 : Glob := G17.add 131 whm
theorem G18_ok : GlobOk Try.prog G18 := G17_ok.add ⟨Try.f131, Try.func131, by kernel_rfl, by kernel_rfl⟩ wjz
def v7i : Nat → Option LoopSpec
  | _ => none
theorem wk3 : vad Try.prog 61 wfv :=
  vao G18_ok follows (Try.f61.body.getD .skip) Try.func61 (by kernel_rfl) fun p q => ⟨v7i, (n49n_p _).p.map _, by rw [wba]; kernel_rfl, vab (ids := []) (by kernel_rfl) (by kernel_rfl) trivial⟩
def G19 : Glob := G18.add 61 wfv
theorem G19_ok : GlobOk Try.prog G19 := G18_ok.add ⟨Try.f61, Try.func61, by kernel_rfl, by kernel_rfl⟩ wk3
def v6n : Nat → Option LoopSpec
  | _ => none
theorem wkq : vad Try.prog 51 wgz :=
  vao G19_ok follows (Try.f51.body.getD .skip) Try.func51 (by kernel_rfl) fun p q => ⟨v6n, (n50n_p _).p.map _, by rw [v86]; kernel_rfl, vab (ids := []) (by kernel_rfl) (by kernel_rfl) trivial⟩
def G20 : Glob := G19.add 51 wgz
theorem G20_ok : GlobOk Try.prog G20 := G19_ok.add ⟨Try.f51, Try.func51, by kernel_rfl, by kernel_rfl⟩ wkq
def v7f : Nat → Option LoopSpec
  | _ => none
theorem wj1 : vad Try.prog 108 wfq :=
  vao G20_ok.shallow follows (Try.f108.body.getD .skip) Try.func108 (by kernel_rfl) fun p q => ⟨v7f, (n71n_p _).p.map _, by rw [wa9]; kernel_rfl, vab (ids := []) (by kernel_rfl) (by kernel_rfl) trivial⟩
def G21 : Glob := G20.add 108 wfq
theorem G21_ok : GlobOk Try.prog G21 := G20_ok.add ⟨Try.f108, Try.func108, by kernel_rfl, by kernel_rfl⟩ wj1
def v2n : q4T → List AV := fun x => [.lst tTxn x.1, .own 0, .i x.2.1]
def v0x : q4T → St := fun x => [.arr tTxn x.2.2]
def vvr : Nat → Option LoopSpec
  | 0 => some (lpS [0, 3, 4] [] [.lst tTxn, .own 0, .i] [.arr tTxn] vi5 (fun p q => (p.1, p.2.2.1, q.1)) (fun k => (onE (exZ (.exit 0) v2n v0x) k)))
  | _ => none
theorem wdc : LpAt G21.shallow ⟨0, 21, vvr⟩ Try.f188 0 :=
  vaw rfl (fun x => (n73n_bp0 x).p) v2n v0x (exZ (.exit 0) v2n v0x) (fun _ _ => ⟨rfl, rfl⟩) (fun z => by (intro h; cases h)) (fun _ _ => rfl) (fun x => by kernel_rfl)
theorem wke : vad Try.prog 188 wfw :=
  vao G21_ok.shallow follows (Try.f188.body.getD .skip) Try.func188 (by kernel_rfl) fun p q => ⟨vvr, (n73n_p _).p.map _, by rw [v79]; kernel_rfl, vab (ids := [0]) (by kernel_rfl) (by kernel_rfl) ⟨wdc, trivial⟩⟩
def G22 : Glob := G21.add 188 wfw
theorem G22_ok : GlobOk Try.prog G22 := G21_ok.add ⟨Try.f188, Try.func188, by kernel_rfl, by kernel_rfl⟩ wke
def v7l : Nat → Option LoopSpec
  | 1000001 => some ⟨[2], [], fun _ _ _ => none⟩
  | _ => none
theorem wj5 : vad Try.prog 187 whn :=
  vao G22_ok.shallow follows (Try.f187.body.getD .skip) Try.func187 (by kernel_rfl) fun p q => ⟨v7l, (n72n_p _).p.map _, by rw [v9v]; kernel_rfl, vab (ids := []) (by kernel_rfl) (by kernel_rfl) trivial⟩
def G23 : Glob := G22.add 187 whn
theorem G23_ok : GlobOk Try.prog G23 := G22_ok.add ⟨Try.f187, Try.func187, by kernel_rfl, by kernel_rfl⟩ wj5
def v55 : Nat → Option LoopSpec
  | 2000001 => some ⟨[0, 2, 6, 8, 5, 11, 12, 14], [], fun _ _ _ => none⟩
  | _ => none
theorem wj2 : vad Try.prog 129 whi :=
  vao G23_ok.shallow follows (Try.f129.body.getD .skip) Try.func129 (by kernel_rfl) fun p q => ⟨v55, (n74n_p _).p.map _, by rw [v71]; kernel_rfl, vab (ids := []) (by kernel_rfl) (by kernel_rfl) trivial⟩
def G24 : Glob := G23.add 129 whi
theorem G24_ok : GlobOk Try.prog G24 := G23_ok.add ⟨Try.f129, Try.func129, by kernel_rfl, by kernel_rfl⟩ wj2
def vqq : q34T → List AV := fun x => [.i x.1, .bp 0 0, .i x.2.1, .i x.2.2.1]
def vqa : q34T → St := fun x => [.box [.lst tVersion x.2.2.2.1, .lst tTxn x.2.2.2.2.1, .lst tTxn x.2.2.2.2.2.1, .i x.2.2.2.2.2.2.1, .i x.2.2.2.2.2.2.2.1, .lst tTxn x.2.2.2.2.2.2.2.2]]
def vtq : Nat → Option LoopSpec
  | 0 => some (lpS [1, 2, 4, 5] [] [.i, .bp 0 0, .i, .i] [.box [.lst tVersion, .lst tTxn, .lst tTxn, .i, .i, .lst tTxn]] vis (fun p q => (p.1, p.2.2.1, p.2.2.2.1, q.1.1, q.1.2.1, q.1.2.2.1, q.1.2.2.2.1, q.1.2.2.2.2.1, q.1.2.2.2.2.2.1)) (fun k => (Sum.elim (onE (exZ .ret vqq vqa) k) (onE (exZ (.exit 0) vqq vqa) k))))
  | _ => none
theorem wb5 : LpAt G24.shallow ⟨0, 22, vtq⟩ Try.f130 0 :=
  vaw rfl (fun x => (n62n_bp0 x).p) vqq vqa (Sum.elim ((exZ .ret vqq vqa)) ((exZ (.exit 0) vqq vqa))) (fun _ _ => ⟨rfl, rfl⟩) (fun z => by rcases z with z | z <;> (intro h; cases h)) (fun k z => by rcases z with z | z <;> rfl) (fun x => by kernel_rfl)
theorem wk6 : vad Try.prog 130 wf1 :=
  vao G24_ok.shallow follows (Try.f130.body.getD .skip) Try.func130 (by kernel_rfl) fun p q => ⟨vtq, (n62n_p _ _).p.map _, by rw [v93]; kernel_rfl, vab (ids := [0]) (by kernel_rfl) (by kernel_rfl) ⟨wb5, trivial⟩⟩
def G25 : Glob := G24.add 130 wf1
theorem G25_ok : GlobOk Try.prog G25 := G24_ok.add ⟨Try.f130, Try.func130, by kernel_rfl, by kernel_rfl⟩ wk6
def v6m : Nat → Option LoopSpec
  | _ => none
theorem wls : vad Try.prog 122 wfy :=
  vao G25_ok.shallow follows (Try.f122.body.getD .skip) Try.func122 (by kernel_rfl) fun p q => ⟨v6m, (n70n_p _ _ _).p.map _, by rw [wbq]; kernel_rfl, vab (ids := []) (by kernel_rfl) (by kernel_rfl) trivial⟩
def G26 : Glob := G25.add 122 wfy
theorem G26_ok : GlobOk Try.prog G26 := G25_ok.add ⟨Try.f122, Try.func122, by kernel_rfl, by kernel_rfl⟩ wls
def vqs : (ByteArray × Bool × Int) → List AV := fun x => [.str x.1, .bool x.2.1, .i x.2.2]
def vql : (ByteArray × Bool × Int) → St := fun x => []
def vvc : Nat → Option LoopSpec
  | 0 => some (lpS [0, 2, 3] [] [.str, .bool, .i] [] vje (fun p q => (p.1, p.2.1, p.2.2.1)) (fun k => (Sum.elim (onE (exZ .ret vqs vql) k) (onE (exZ (.exit 0) vqs vql) k))))
  | _ => none
theorem wdz : LpAt G26.shallow ⟨0, 23, vvc⟩ Try.f123 0 :=
  vaw rfl (fun x => (n61n_bp0 x).p) vqs vql (Sum.elim ((exZ .ret vqs vql)) ((exZ (.exit 0) vqs vql))) (fun _ _ => ⟨rfl, rfl⟩) (fun z => by rcases z with z | z <;> (intro h; cases h)) (fun k z => by rcases z with z | z <;> rfl) (fun x => by kernel_rfl)
theorem wjp : vad Try.prog 123 wfo :=
  vao G26_ok.shallow follows (Try.f123.body.getD .skip) Try.func123 (by kernel_rfl) fun p q => ⟨vvc, (n61n_p _).p.map _, by rw [wav]; kernel_rfl, vab (ids := [0]) (by kernel_rfl) (by kernel_rfl) ⟨wdz, trivial⟩⟩
def G27 : Glob := G26.add 123 wfo
theorem G27_ok : GlobOk Try.prog G27 := G26_ok.add ⟨Try.f123, Try.func123, by kernel_rfl, by kernel_rfl⟩ wjp
def v6d : Nat → Option LoopSpec
  | _ => none
theorem wiy : vad Try.prog 114 wgp :=
  vao G27_ok.shallow follows (Try.f114.body.getD .skip) Try.func114 (by kernel_rfl) fun p q => ⟨v6d, (n68n_p _).p.map _, by rw [wbd]; kernel_rfl, vab (ids := []) (by kernel_rfl) (by kernel_rfl) trivial⟩
def G28 : Glob := G27.add 114 wgp
theorem G28_ok : GlobOk Try.prog G28 := G27_ok.add ⟨Try.f114, Try.func114, by kernel_rfl, by kernel_rfl⟩ wiy
def vre : ((List vaa) × Bool × Int) → List AV := fun x => [.lst tWrite x.1, .bool x.2.1, .i x.2.2]
def vp7 : ((List vaa) × Bool × Int) → St := fun x => []
def vu6 : Nat → Option LoopSpec
  | 0 => some (lpS [0, 2, 3] [] [.lst tWrite, .bool, .i] [] vjf (fun p q => (p.1, p.2.1, p.2.2.1)) (fun k => (Sum.elim (onE (exZ .ret vre vp7) k) (onE (exZ (.exit 0) vre vp7) k))))
  | 2000004 => some ⟨[0, 2, 4, 6, 9, 10, 12, 14, 16, 18, 20, 22, 24, 26, 28, 30, 32, 34, 36, 38, 40, 42, 44, 46], [], fun _ _ _ => none⟩
  | _ => none
theorem we7 : LpAt G28.shallow ⟨0, 37, vu6⟩ Try.f116 0 :=
  vaw rfl (fun x => (n69n_bp0 x).p) vre vp7 (Sum.elim ((exZ .ret vre vp7)) ((exZ (.exit 0) vre vp7))) (fun _ _ => ⟨rfl, rfl⟩) (fun z => by rcases z with z | z <;> (intro h; cases h)) (fun k z => by rcases z with z | z <;> rfl) (fun x => by kernel_rfl)
theorem wi9 : vad Try.prog 116 wgc :=
  vao G28_ok.shallow follows (Try.f116.body.getD .skip) Try.func116 (by kernel_rfl) fun p q => ⟨vu6, (n69n_p _).p.map _, by rw [v9h]; kernel_rfl, vab (ids := [0]) (by kernel_rfl) (by kernel_rfl) ⟨we7, trivial⟩⟩
def G29 : Glob := G28.add 116 wgc
theorem G29_ok : GlobOk Try.prog G29 := G28_ok.add ⟨Try.f116, Try.func116, by kernel_rfl, by kernel_rfl⟩ wi9
def v6v : Nat → Option LoopSpec
  | _ => none
theorem wla : vad Try.prog 109 wf6 :=
  vao G29_ok.shallow follows (Try.f109.body.getD .skip) Try.func109 (by kernel_rfl) fun p q => ⟨v6v, (n65n_p _).p.map _, by rw [v8l]; kernel_rfl, vab (ids := []) (by kernel_rfl) (by kernel_rfl) trivial⟩
def G30 : Glob := G29.add 109 wf6
theorem G30_ok : GlobOk Try.prog G30 := G29_ok.add ⟨Try.f109, Try.func109, by kernel_rfl, by kernel_rfl⟩ wla
def vgp : q22T → List AV := fun x => [.bp 0 0, .bool x.1]
def vf8 : q22T → St := fun x => [.box [.i x.2.1, .i x.2.2.1, .i x.2.2.2.1, .i x.2.2.2.2.1, .lst tRange x.2.2.2.2.2.1, .lst tWrite x.2.2.2.2.2.2.1, .bool x.2.2.2.2.2.2.2.1, .str x.2.2.2.2.2.2.2.2]]
def vgw : q22T → List AV := fun x => [.bp 0 0, .bool x.1]
def vf6 : q22T → St := fun x => [.box [.i x.2.1, .i x.2.2.1, .i x.2.2.2.1, .i x.2.2.2.2.1, .lst tRange x.2.2.2.2.2.1, .lst tWrite x.2.2.2.2.2.2.1, .bool x.2.2.2.2.2.2.2.1, .str x.2.2.2.2.2.2.2.2]]
def vqn : q24T → List AV := fun x => [.bp 0 0, .bool x.1, .i x.2.1]
def vqw : q24T → St := fun x => let xh := x.2.2.2.2.2.2.2.2; [.box [.i x.2.2.1, .i x.2.2.2.1, .i x.2.2.2.2.1, .i x.2.2.2.2.2.1, .lst tRange x.2.2.2.2.2.2.1, .lst tWrite x.2.2.2.2.2.2.2.1, .bool xh.1, .str xh.2]]
def vgf : q22T → List AV := fun x => [.bp 0 0, .bool x.1]
def vf1 : q22T → St := fun x => [.box [.i x.2.1, .i x.2.2.1, .i x.2.2.2.1, .i x.2.2.2.2.1, .lst tRange x.2.2.2.2.2.1, .lst tWrite x.2.2.2.2.2.2.1, .bool x.2.2.2.2.2.2.2.1, .str x.2.2.2.2.2.2.2.2]]
def vhi : Nat → Option LoopSpec
  | 5000012 => some (ctS [1, 2] [] [.bp 0 0, .bool] [.box [.i, .i, .i, .i, .lst tRange, .lst tWrite, .bool, .str]] vbo (fun p q => (p.2.1, q.1.1, q.1.2.1, q.1.2.2.1, q.1.2.2.2.1, q.1.2.2.2.2.1, q.1.2.2.2.2.2.1, q.1.2.2.2.2.2.2.1, q.1.2.2.2.2.2.2.2.1)) (fun k => (onE (exZ .ret vgp vf8) k)))
  | 5000010 => some (ctS [1, 2] [] [.bp 0 0, .bool] [.box [.i, .i, .i, .i, .lst tRange, .lst tWrite, .bool, .str]] vbn (fun p q => (p.2.1, q.1.1, q.1.2.1, q.1.2.2.1, q.1.2.2.2.1, q.1.2.2.2.2.1, q.1.2.2.2.2.2.1, q.1.2.2.2.2.2.2.1, q.1.2.2.2.2.2.2.2.1)) (fun k => (onE (exZ .ret vgw vf6) k)))
  | 0 => some (lpS [1, 2, 3] [] [.bp 0 0, .bool, .i] [.box [.i, .i, .i, .i, .lst tRange, .lst tWrite, .bool, .str]] vjy (fun p q => (p.2.1, p.2.2.1, q.1.1, q.1.2.1, q.1.2.2.1, q.1.2.2.2.1, q.1.2.2.2.2.1, q.1.2.2.2.2.2.1, q.1.2.2.2.2.2.2.1, q.1.2.2.2.2.2.2.2.1)) (fun k => (Sum.elim (onE (exZ .ret vqn vqw) k) (onE (exZ (.exit 0) vqn vqw) k))))
  | 5000003 => some (ctS [1, 2] [] [.bp 0 0, .bool] [.box [.i, .i, .i, .i, .lst tRange, .lst tWrite, .bool, .str]] vcs (fun p q => (p.2.1, q.1.1, q.1.2.1, q.1.2.2.1, q.1.2.2.2.1, q.1.2.2.2.2.1, q.1.2.2.2.2.2.1, q.1.2.2.2.2.2.2.1, q.1.2.2.2.2.2.2.2.1)) (fun k => (onE (exZ .ret vgf vf1) k)))
  | _ => none
theorem vsm : CtAt G30.shallow ⟨0, 95, vhi⟩ Try.f44 5000012 :=
  vdt rfl (fun x => (n66n_jp5000012 x).p) vgp vf8 (exZ .ret vgp vf8) (fun _ _ => ⟨rfl, rfl⟩) (fun _ _ => rfl) (fun x => by kernel_rfl)
theorem vs3 : CtAt G30.shallow ⟨0, 95, vhi⟩ Try.f44 5000010 :=
  vdt rfl (fun x => (n66n_jp5000010 x).p) vgw vf6 (exZ .ret vgw vf6) (fun _ _ => ⟨rfl, rfl⟩) (fun _ _ => rfl) (fun x => by kernel_rfl)
theorem wfk : LpAt G30.shallow ⟨0, 95, vhi⟩ Try.f44 0 :=
  vaw rfl (fun x => (n66n_bp0 x).p) vqn vqw (Sum.elim ((exZ .ret vqn vqw)) ((exZ (.exit 0) vqn vqw))) (fun _ _ => ⟨rfl, rfl⟩) (fun z => by rcases z with z | z <;> (intro h; cases h)) (fun k z => by rcases z with z | z <;> rfl) (fun x => by kernel_rfl)
theorem vsy : CtAt G30.shallow ⟨0, 95, vhi⟩ Try.f44 5000003 :=
  vdt rfl (fun x => (n66n_jp5000003 x).p) vgf vf1 (exZ .ret vgf vf1) (fun _ _ => ⟨rfl, rfl⟩) (fun _ _ => rfl) (fun x => by kernel_rfl)
theorem wlh : vad Try.prog 44 wgr :=
  vao G30_ok.shallow follows (Try.f44.body.getD .skip) Try.func44 (by kernel_rfl) fun p q => ⟨vhi, (n66n_p _).p.map _, by rw [v76]; kernel_rfl, vab (ids := [5000012, 5000010, 0, 5000003]) (by kernel_rfl) (by kernel_rfl) ⟨vsm, ⟨vs3, ⟨wfk, ⟨vsy, trivial⟩⟩⟩⟩⟩
def G31 : Glob := G30.add 44 wgr
theorem G31_ok : GlobOk Try.prog G31 := G30_ok.add ⟨Try.f44, Try.func44, by kernel_rfl, by kernel_rfl⟩ wlh
def v1t : q14T → List AV := fun x => [.lst tWrite x.1, .bp 0 0, .own 1, .i x.2.1]
def v16 : q14T → St := fun x => [.box [.str x.2.2.1, .str x.2.2.2.1, .bool x.2.2.2.2.1], .arr tWrite x.2.2.2.2.2]
def v2p : q14T → List AV := fun x => [.lst tWrite x.1, .bp 0 0, .own 1, .i x.2.1]
def v2j : q14T → St := fun x => [.box [.str x.2.2.1, .str x.2.2.2.1, .bool x.2.2.2.2.1], .arr tWrite x.2.2.2.2.2]
def vnv : Nat → Option LoopSpec
  | 0 => some (lpS [0, 3, 5, 6] [] [.lst tWrite, .bp 0 0, .own 1, .i] [.box [.str, .str, .bool], .arr tWrite] vio (fun p q => (p.1, p.2.2.2.1, q.1.1, q.1.2.1, q.1.2.2.1, q.2.1)) (fun k => (onE (exZ (.exit 0) v1t v16) k)))
  | 2 => some (lpS [0, 3, 5, 7] [] [.lst tWrite, .bp 0 0, .own 1, .i] [.box [.str, .str, .bool], .arr tWrite] vjj (fun p q => (p.1, p.2.2.2.1, q.1.1, q.1.2.1, q.1.2.2.1, q.2.1)) (fun k => (onE (exZ (.exit 2) v2p v2j) k)))
  | 2000005 => some ⟨[0, 2, 4, 6, 8, 10, 12, 14], [], fun _ _ _ => none⟩
  | 2000011 => some ⟨[0, 2, 4, 6, 8, 10, 12, 14], [], fun _ _ _ => none⟩
  | _ => none
theorem wdi : LpAt G31.shallow ⟨0, 56, vnv⟩ Try.f115 0 :=
  vaw rfl (fun x => (n64n_bp0 x).p) v1t v16 (exZ (.exit 0) v1t v16) (fun _ _ => ⟨rfl, rfl⟩) (fun z => by (intro h; cases h)) (fun _ _ => rfl) (fun x => by kernel_rfl)
theorem wcc : LpAt G31.shallow ⟨0, 56, vnv⟩ Try.f115 2 :=
  vaw rfl (fun x => (n64n_bp2 x).p) v2p v2j (exZ (.exit 2) v2p v2j) (fun _ _ => ⟨rfl, rfl⟩) (fun z => by (intro h; cases h)) (fun _ _ => rfl) (fun x => by kernel_rfl)
theorem wk7 : vad Try.prog 115 wgs :=
  vao G31_ok.shallow follows (Try.f115.body.getD .skip) Try.func115 (by kernel_rfl) fun p q => ⟨vnv, (n64n_p _ _).p.map _, by rw [v8w]; kernel_rfl, vab (ids := [0, 2]) (by kernel_rfl) (by kernel_rfl) ⟨wdi, ⟨wcc, trivial⟩⟩⟩
def G32 : Glob := G31.add 115 wgs
theorem G32_ok : GlobOk Try.prog G32 := G31_ok.add ⟨Try.f115, Try.func115, by kernel_rfl, by kernel_rfl⟩ wk7
def vfv : q20T → List AV := fun x => [.bp 0 0, .bp 1 0, .bp 2 0, .bool x.1, .bp 3 0]
def vgc : q20T → St := fun x => let xh := x.2.2.2.2.2.2.2.2; let xhh := xh.2.2.2.2.2.2.2.2; let xhhh := xhh.2.2.2.2.2.2.2.2; [.box [.i x.2.1, .i x.2.2.1, .i x.2.2.2.1, .i x.2.2.2.2.1, .lst tRange x.2.2.2.2.2.1, .lst tWrite x.2.2.2.2.2.2.1, .bool x.2.2.2.2.2.2.2.1, .str xh.1], .box [.str xh.2.1, .str xh.2.2.1, .bool xh.2.2.2.1], .box [.i xh.2.2.2.2.1, .i xh.2.2.2.2.2.1, .i xh.2.2.2.2.2.2.1, .i xh.2.2.2.2.2.2.2.1, .own 4, .own 5, .bool xhh.1, .str xhh.2.1], .box [.i xhh.2.2.1, .i xhh.2.2.2.1, .i xhh.2.2.2.2.1, .i xhh.2.2.2.2.2.1, .own 6, .own 7, .bool xhh.2.2.2.2.2.2.1, .str xhh.2.2.2.2.2.2.2.1], .arr tRange xhhh.1, .arr tWrite xhhh.2.1, .arr tRange xhhh.2.2.1, .arr tWrite xhhh.2.2.2]
def vj0 : q21T → Out × List AV × St := fun z => let zh := z.2.2.2.2.2.2.2.2; let zhh := zh.2.2.2.2.2.2.2.2; let zhhh := zhh.2.2.2.2.2.2.2.2; (.ret, [.bp 0 0, .bp 1 0, .bp 2 0, .bool z.1, .bp 3 0], [.box [.i z.2.1, .i z.2.2.1, .i z.2.2.2.1, .i z.2.2.2.2.1, .lst tRange z.2.2.2.2.2.1, .lst tWrite z.2.2.2.2.2.2.1, .bool z.2.2.2.2.2.2.2.1, .str zh.1], .box [.str zh.2.1, .str zh.2.2.1, .bool zh.2.2.2.1], .box [.i zh.2.2.2.2.1, .i zh.2.2.2.2.2.1, .i zh.2.2.2.2.2.2.1, .i zh.2.2.2.2.2.2.2.1, .own 4, .own 5, .bool zhh.1, .str zhh.2.1], .box [.i zhh.2.2.1, .i zhh.2.2.2.1, .i zhh.2.2.2.2.1, .i zhh.2.2.2.2.2.1, .own 4, .own 5, .bool zhh.2.2.2.2.2.2.1, .str zhh.2.2.2.2.2.2.2.1], .arr tRange zhhh.1, .arr tWrite zhhh.2])
def vus : Nat → Option LoopSpec
  | 5000004 => some (ctS [2, 3, 4, 5, 6] [none, none, none, none, none, none, none, none, none, none, none, none, none, none, none, none, none, none, none, none, some tRange, some tWrite] [.bp 0 0, .bp 1 0, .bp 2 0, .bool, .bp 3 0] [.box [.i, .i, .i, .i, .lst tRange, .lst tWrite, .bool, .str], .box [.str, .str, .bool], .box [.i, .i, .i, .i, .own 4, .own 5, .bool, .str], .box [.i, .i, .i, .i, .own 6, .own 7, .bool, .str], .arr tRange, .arr tWrite, .arr tRange, .arr tWrite] vcq (fun p q => (p.2.2.2.1, q.1.1, q.1.2.1, q.1.2.2.1, q.1.2.2.2.1, q.1.2.2.2.2.1, q.1.2.2.2.2.2.1, q.1.2.2.2.2.2.2.1, q.1.2.2.2.2.2.2.2.1, q.2.1.1, q.2.1.2.1, q.2.1.2.2.1, q.2.2.1.1, q.2.2.1.2.1, q.2.2.1.2.2.1, q.2.2.1.2.2.2.1, q.2.2.1.2.2.2.2.2.2.1, q.2.2.1.2.2.2.2.2.2.2.1, q.2.2.2.1.1, q.2.2.2.1.2.1, q.2.2.2.1.2.2.1, q.2.2.2.1.2.2.2.1, q.2.2.2.1.2.2.2.2.2.2.1, q.2.2.2.1.2.2.2.2.2.2.2.1, q.2.2.2.2.1, q.2.2.2.2.2.1, q.2.2.2.2.2.2.1, q.2.2.2.2.2.2.2.1)) (fun k => (Sum.elim (onE vj0 k) (onE (exZ .ret vfv vgc) k))))
  | _ => none
theorem vsu : CtAt G32.shallow ⟨0, 35, vus⟩ Try.f40 5000004 :=
  vdt rfl (fun x => (n67n_jp5000004 x).p) vfv vgc (Sum.elim (vj0) ((exZ .ret vfv vgc))) (fun _ _ => ⟨rfl, rfl⟩) (fun k z => by rcases z with z | z <;> rfl) (fun x => by kernel_rfl)
theorem wlo : vad Try.prog 40 whg :=
  vao G32_ok.shallow follows (Try.f40.body.getD .skip) Try.func40 (by kernel_rfl) fun p q => ⟨vus, (n67n_p _ _).p.map _, by rw [v9a]; kernel_rfl, vab (ids := [5000004]) (by kernel_rfl) (by kernel_rfl) ⟨vsu, trivial⟩⟩
def G33 : Glob := G32.add 40 whg
theorem G33_ok : GlobOk Try.prog G33 := G32_ok.add ⟨Try.f40, Try.func40, by kernel_rfl, by kernel_rfl⟩ wlo
def v6q : Nat → Option LoopSpec
  | _ => none
theorem wj8 : vad Try.prog 50 wgh :=
  vao G33_ok.shallow follows (Try.f50.body.getD .skip) Try.func50 (by kernel_rfl) fun p q => ⟨v6q, (n63n_p _ _ _).p.map _, by rw [wan]; kernel_rfl, vab (ids := []) (by kernel_rfl) (by kernel_rfl) trivial⟩
def G34 : Glob := G33.add 50 wgh
theorem G34_ok : GlobOk Try.prog G34 := G33_ok.add ⟨Try.f50, Try.func50, by kernel_rfl, by kernel_rfl⟩ wj8
def v59 : Nat → Option LoopSpec
  | _ => none
theorem wlg : vad Try.prog 105 wf4 :=
  vao G34_ok follows (Try.f105.body.getD .skip) Try.func105 (by kernel_rfl) fun p q => ⟨v59, (n12n_p _).p.map _, by rw [v7s]; kernel_rfl, vab (ids := []) (by kernel_rfl) (by kernel_rfl) trivial⟩
def G35 : Glob := G34.add 105 wf4
theorem G35_ok : GlobOk Try.prog G35 := G34_ok.add ⟨Try.f105, Try.func105, by kernel_rfl, by kernel_rfl⟩ wlg
def v1u : q5T → List AV := fun x => [.own 0, .lst tTxn x.1, .i x.2.1, .i x.2.2.1]
def v04 : q5T → St := fun x => [.dep tTxn x.2.2.2 0]
def vt2 : Nat → Option LoopSpec
  | 0 => some (lpS [3, 6, 7, 8] [some tTxn] [.own 0, .lst tTxn, .i, .i] [.dep tTxn 0] viy (fun p q => (p.2.1, p.2.2.1, p.2.2.2.1, q.1)) (fun k => (onE (exZ (.exit 0) v1u v04) k)))
  | _ => none
theorem wef : LpAt G35 ⟨0, 19, vt2⟩ Try.f190 0 :=
  vaw rfl (fun x => (n13n_bp0 x).p) v1u v04 (exZ (.exit 0) v1u v04) (fun _ _ => ⟨rfl, rfl⟩) (fun z => by (intro h; cases h)) (fun _ _ => rfl) (fun x => by kernel_rfl)
theorem wlk : vad Try.prog 190 wfx :=
  vao G35_ok follows (Try.f190.body.getD .skip) Try.func190 (by kernel_rfl) fun p q => ⟨vt2, (n13n_p _).p.map _, by rw [v96]; kernel_rfl, vab (ids := [0]) (by kernel_rfl) (by kernel_rfl) ⟨wef, trivial⟩⟩
def G36 : Glob := G35.add 190 wfx
theorem G36_ok : GlobOk Try.prog G36 := G35_ok.add ⟨Try.f190, Try.func190, by kernel_rfl, by kernel_rfl⟩ wlk
def v6h : Nat → Option LoopSpec
  | 2000002 => some ⟨[0, 2, 6, 8, 5, 12, 11, 14, 16, 18], [], fun _ _ _ => none⟩
  | _ => none
theorem wk1 : vad Try.prog 189 wfs :=
  vao G36_ok follows (Try.f189.body.getD .skip) Try.func189 (by kernel_rfl) fun p q => ⟨v6h, (n10n_p _).p.map _, by rw [v82]; kernel_rfl, vab (ids := []) (by kernel_rfl) (by kernel_rfl) trivial⟩
def G37 : Glob := G36.add 189 wfs
theorem G37_ok : GlobOk Try.prog G37 := G36_ok.add ⟨Try.f189, Try.func189, by kernel_rfl, by kernel_rfl⟩ wk1
def v6x : Nat → Option LoopSpec
  | 2000001 => some ⟨[0, 2, 6, 8, 5, 11, 12, 14], [], fun _ _ _ => none⟩
  | _ => none
theorem wjo : vad Try.prog 132 wgn :=
  vao G37_ok follows (Try.f132.body.getD .skip) Try.func132 (by kernel_rfl) fun p q => ⟨v6x, (n11n_p _).p.map _, by rw [v8p]; kernel_rfl, vab (ids := []) (by kernel_rfl) (by kernel_rfl) trivial⟩
def G38 : Glob := G37.add 132 wgn
theorem G38_ok : GlobOk Try.prog G38 := G37_ok.add ⟨Try.f132, Try.func132, by kernel_rfl, by kernel_rfl⟩ wjo
def v54 : Nat → Option LoopSpec
  | _ => none
theorem wi4 : vad Try.prog 192 wgw :=
  vao G38_ok follows (Try.f192.body.getD .skip) Try.func192 (by kernel_rfl) fun p q => ⟨v54, (n02n_p _ _).p.map _, by rw [v9p]; kernel_rfl, vab (ids := []) (by kernel_rfl) (by kernel_rfl) trivial⟩
def G39 : Glob := G38.add 192 wgw
theorem G39_ok : GlobOk Try.prog G39 := G38_ok.add ⟨Try.f192, Try.func192, by kernel_rfl, by kernel_rfl⟩ wi4
def vqr : q6T → List AV := fun x => [.lst tTxn x.1, .fn 192 [.bp 0 0], .i x.2.1, .i x.2.2.1, .i x.2.2.2.1]
def vr1 : q6T → St := fun x => [.box [.i x.2.2.2.2]]
def vud : Nat → Option LoopSpec
  | 0 => some (lpS [0, 1, 4, 7, 8] [] [.lst tTxn, .fn 192 [.bp 0 0], .i, .i, .i] [.box [.i]] vjx (fun p q => (p.1, p.2.2.1, p.2.2.2.1, p.2.2.2.2.1, q.1.1)) (fun k => (Sum.elim (onE (exZ .ret vqr vr1) k) (onE (exZ (.exit 0) vqr vr1) k))))
  | _ => none
theorem wfj : LpAt G39 ⟨1, 19, vud⟩ Try.f191 0 :=
  vaw rfl (fun x => (n59n_bp0 x).p) vqr vr1 (Sum.elim ((exZ .ret vqr vr1)) ((exZ (.exit 0) vqr vr1))) (fun _ _ => ⟨rfl, rfl⟩) (fun z => by rcases z with z | z <;> (intro h; cases h)) (fun k z => by rcases z with z | z <;> rfl) (fun x => by kernel_rfl)
theorem vik : vad Try.prog 191 vdv :=
  vao G39_ok follows (Try.f191.body.getD .skip) Try.func191 (by kernel_rfl) fun p q => ⟨vud, (n59n_p _ _).p.map _, by rw [wa6]; kernel_rfl, vab (ids := [0]) (by kernel_rfl) (by kernel_rfl) ⟨wfj, trivial⟩⟩
def G40 : Glob := G39.add 191 vdv
theorem G40_ok : GlobOk Try.prog G40 := G39_ok.add ⟨Try.f191, Try.func191, by kernel_rfl, by kernel_rfl⟩ vik
def v7c : Nat → Option LoopSpec
  | _ => none
theorem wki : vad Try.prog 133 wga :=
  vao G40_ok follows (Try.f133.body.getD .skip) Try.func133 (by kernel_rfl) fun p q => ⟨v7c, (n01n_p _ _).p.map _, by rw [v7z]; kernel_rfl, vab (ids := []) (by kernel_rfl) (by kernel_rfl) trivial⟩
def G41 : Glob := G40.add 133 wga
theorem G41_ok : GlobOk Try.prog G41 := G40_ok.add ⟨Try.f133, Try.func133, by kernel_rfl, by kernel_rfl⟩ wki
def v5q : Nat → Option LoopSpec
  | _ => none
theorem wi8 : vad Try.prog 124 wgu :=
  vao G41_ok follows (Try.f124.body.getD .skip) Try.func124 (by kernel_rfl) fun p q => ⟨v5q, (n14n_p _ _ _).p.map _, by rw [wa5]; kernel_rfl, vab (ids := []) (by kernel_rfl) (by kernel_rfl) trivial⟩
def G42 : Glob := G41.add 124 wgu
theorem G42_ok : GlobOk Try.prog G42 := G41_ok.add ⟨Try.f124, Try.func124, by kernel_rfl, by kernel_rfl⟩ wi8
def vry : (ByteArray × Bool × Int) → List AV := fun x => [.str x.1, .bool x.2.1, .i x.2.2]
def vpr : (ByteArray × Bool × Int) → St := fun x => []
def vt6 : Nat → Option LoopSpec
  | 0 => some (lpS [0, 2, 3] [] [.str, .bool, .i] [] vkk (fun p q => (p.1, p.2.1, p.2.2.1)) (fun k => (Sum.elim (onE (exZ .ret vry vpr) k) (onE (exZ (.exit 0) vry vpr) k))))
  | _ => none
theorem wc8 : LpAt G42 ⟨0, 23, vt6⟩ Try.f126 0 :=
  vaw rfl (fun x => (n00n_bp0 x).p) vry vpr (Sum.elim ((exZ .ret vry vpr)) ((exZ (.exit 0) vry vpr))) (fun _ _ => ⟨rfl, rfl⟩) (fun z => by rcases z with z | z <;> (intro h; cases h)) (fun k z => by rcases z with z | z <;> rfl) (fun x => by kernel_rfl)
theorem wj7 : vad Try.prog 126 wfu :=
  vao G42_ok follows (Try.f126.body.getD .skip) Try.func126 (by kernel_rfl) fun p q => ⟨vt6, (n00n_p _).p.map _, by rw [v89]; kernel_rfl, vab (ids := [0]) (by kernel_rfl) (by kernel_rfl) ⟨wc8, trivial⟩⟩
def G43 : Glob := G42.add 126 wfu
theorem G43_ok : GlobOk Try.prog G43 := G42_ok.add ⟨Try.f126, Try.func126, by kernel_rfl, by kernel_rfl⟩ wj7
def v67 : Nat → Option LoopSpec
  | _ => none
theorem wjg : vad Try.prog 112 wha :=
  vao G43_ok follows (Try.f112.body.getD .skip) Try.func112 (by kernel_rfl) fun p q => ⟨v67, (n08n_p _).p.map _, by rw [wax]; kernel_rfl, vab (ids := []) (by kernel_rfl) (by kernel_rfl) trivial⟩
def G44 : Glob := G43.add 112 wha
theorem G44_ok : GlobOk Try.prog G44 := G43_ok.add ⟨Try.f112, Try.func112, by kernel_rfl, by kernel_rfl⟩ wjg
def v6c : Nat → Option LoopSpec
  | _ => none
theorem wkl : vad Try.prog 106 whh :=
  vao G44_ok follows (Try.f106.body.getD .skip) Try.func106 (by kernel_rfl) fun p q => ⟨v6c, (n05n_p _).p.map _, by rw [wa8]; kernel_rfl, vab (ids := []) (by kernel_rfl) (by kernel_rfl) trivial⟩
def G45 : Glob := G44.add 106 whh
theorem G45_ok : GlobOk Try.prog G45 := G44_ok.add ⟨Try.f106, Try.func106, by kernel_rfl, by kernel_rfl⟩ wkl
def vrs : q12T → List AV := fun x => [.lst tWrite x.1, .bool x.2.1, .lst tWrite x.2.2.1, .i x.2.2.2.1, .i x.2.2.2.2]
def vp1 : q12T → St := fun x => []
def vuy : Nat → Option LoopSpec
  | 0 => some (lpS [0, 2, 5, 6, 7] [] [.lst tWrite, .bool, .lst tWrite, .i, .i] [] vjo (fun p q => (p.1, p.2.1, p.2.2.1, p.2.2.2.1, p.2.2.2.2.1)) (fun k => (Sum.elim (onE (exZ .ret vrs vp1) k) (onE (exZ (.exit 0) vrs vp1) k))))
  | 2000004 => some ⟨[0, 3, 4, 6, 8, 10, 12, 14, 16, 18, 20, 22, 24, 26, 28, 30, 32, 34], [], fun _ _ _ => none⟩
  | _ => none
theorem wcx : LpAt G45 ⟨0, 34, vuy⟩ Try.f125 0 :=
  vaw rfl (fun x => (n09n_bp0 x).p) vrs vp1 (Sum.elim ((exZ .ret vrs vp1)) ((exZ (.exit 0) vrs vp1))) (fun _ _ => ⟨rfl, rfl⟩) (fun z => by rcases z with z | z <;> (intro h; cases h)) (fun k z => by rcases z with z | z <;> rfl) (fun x => by kernel_rfl)
theorem wkz : vad Try.prog 125 whb :=
  vao G45_ok follows (Try.f125.body.getD .skip) Try.func125 (by kernel_rfl) fun p q => ⟨vuy, (n09n_p _).p.map _, by rw [waw]; kernel_rfl, vab (ids := [0]) (by kernel_rfl) (by kernel_rfl) ⟨wcx, trivial⟩⟩
def G46 : Glob := G45.add 125 whb
theorem G46_ok : GlobOk Try.prog G46 := G45_ok.add ⟨Try.f125, Try.func125, by kernel_rfl, by kernel_rfl⟩ wkz
def vf2 : q22T → List AV := fun x => [.bp 0 0, .bool x.1]
def vgj : q22T → St := fun x => [.box [.i x.2.1, .i x.2.2.1, .i x.2.2.2.1, .i x.2.2.2.2.1, .lst tRange x.2.2.2.2.2.1, .lst tWrite x.2.2.2.2.2.2.1, .bool x.2.2.2.2.2.2.2.1, .str x.2.2.2.2.2.2.2.2]]
def vf5 : q22T → List AV := fun x => [.bp 0 0, .bool x.1]
def vfx : q22T → St := fun x => [.box [.i x.2.1, .i x.2.2.1, .i x.2.2.2.1, .i x.2.2.2.2.1, .lst tRange x.2.2.2.2.2.1, .lst tWrite x.2.2.2.2.2.2.1, .bool x.2.2.2.2.2.2.2.1, .str x.2.2.2.2.2.2.2.2]]
def vp4 : q16T → List AV := fun x => [.bp 0 0, .bool x.1, .lst tRange x.2.1, .i x.2.2.1, .i x.2.2.2.1]
def vpz : q16T → St := fun x => let xh := x.2.2.2.2.2.2.2.2; [.box [.i x.2.2.2.2.1, .i x.2.2.2.2.2.1, .i x.2.2.2.2.2.2.1, .i x.2.2.2.2.2.2.2.1, .lst tRange xh.1, .lst tWrite xh.2.1, .bool xh.2.2.1, .str xh.2.2.2]]
def vku : Nat → Option LoopSpec
  | 5000011 => some (ctS [1, 2] [] [.bp 0 0, .bool] [.box [.i, .i, .i, .i, .lst tRange, .lst tWrite, .bool, .str]] vbp (fun p q => (p.2.1, q.1.1, q.1.2.1, q.1.2.2.1, q.1.2.2.2.1, q.1.2.2.2.2.1, q.1.2.2.2.2.2.1, q.1.2.2.2.2.2.2.1, q.1.2.2.2.2.2.2.2.1)) (fun k => (onE (exZ .ret vf2 vgj) k)))
  | 5000009 => some (ctS [1, 2] [] [.bp 0 0, .bool] [.box [.i, .i, .i, .i, .lst tRange, .lst tWrite, .bool, .str]] vca (fun p q => (p.2.1, q.1.1, q.1.2.1, q.1.2.2.1, q.1.2.2.2.1, q.1.2.2.2.2.1, q.1.2.2.2.2.2.1, q.1.2.2.2.2.2.2.1, q.1.2.2.2.2.2.2.2.1)) (fun k => (onE (exZ .ret vf5 vfx) k)))
  | 0 => some (lpS [1, 2, 6, 7, 8] [] [.bp 0 0, .bool, .lst tRange, .i, .i] [.box [.i, .i, .i, .i, .lst tRange, .lst tWrite, .bool, .str]] vj8 (fun p q => (p.2.1, p.2.2.1, p.2.2.2.1, p.2.2.2.2.1, q.1.1, q.1.2.1, q.1.2.2.1, q.1.2.2.2.1, q.1.2.2.2.2.1, q.1.2.2.2.2.2.1, q.1.2.2.2.2.2.2.1, q.1.2.2.2.2.2.2.2.1)) (fun k => (Sum.elim (onE (exZ .ret vp4 vpz) k) (onE (exZ (.exit 0) vp4 vpz) k))))
  | _ => none
theorem vtk : CtAt G46 ⟨0, 93, vku⟩ Try.f45 5000011 :=
  vdt rfl (fun x => (n06n_jp5000011 x).p) vf2 vgj (exZ .ret vf2 vgj) (fun _ _ => ⟨rfl, rfl⟩) (fun _ _ => rfl) (fun x => by kernel_rfl)
theorem vs8 : CtAt G46 ⟨0, 93, vku⟩ Try.f45 5000009 :=
  vdt rfl (fun x => (n06n_jp5000009 x).p) vf5 vfx (exZ .ret vf5 vfx) (fun _ _ => ⟨rfl, rfl⟩) (fun _ _ => rfl) (fun x => by kernel_rfl)
theorem wdl : LpAt G46 ⟨0, 93, vku⟩ Try.f45 0 :=
  vaw rfl (fun x => (n06n_bp0 x).p) vp4 vpz (Sum.elim ((exZ .ret vp4 vpz)) ((exZ (.exit 0) vp4 vpz))) (fun _ _ => ⟨rfl, rfl⟩) (fun z => by rcases z with z | z <;> (intro h; cases h)) (fun k z => by rcases z with z | z <;> rfl) (fun x => by kernel_rfl)
theorem wk8 : vad Try.prog 45 wf7 :=
  vao G46_ok follows (Try.f45.body.getD .skip) Try.func45 (by kernel_rfl) fun p q => ⟨vku, (n06n_p _).p.map _, by rw [wbv]; kernel_rfl, vab (ids := [5000011, 5000009, 0]) (by kernel_rfl) (by kernel_rfl) ⟨vtk, ⟨vs8, ⟨wdl, trivial⟩⟩⟩⟩
def G47 : Glob := G46.add 45 wf7
theorem G47_ok : GlobOk Try.prog G47 := G46_ok.add ⟨Try.f45, Try.func45, by kernel_rfl, by kernel_rfl⟩ wk8
theorem vjh : vad Try.prog 181 vcm := by
  intro args s k r hk
  unfold vcm at hk
  rw [v4i] at hk
  unfold vuf at hk
  exact vxo Try.insLaya (by decide) (e := tWrite) rfl #[.string ⟨#[]⟩, .string ⟨#[]⟩, .bool false] rfl rfl args s k r hk
def G48 : Glob := G47.add 181 vcm
theorem G48_ok : GlobOk Try.prog G48 := G47_ok.add ⟨Try.f181, Try.func181, by kernel_rfl, by kernel_rfl⟩ vjh
def vgt : q30T → List AV := fun x => [.bp 0 0, .own 1, .i x.1]
def vfq : q30T → St := fun x => [.box [.str x.2.1, .str x.2.2.1, .bool x.2.2.2.1], .arr tWrite x.2.2.2.2]
def v03 : q30T → List AV := fun x => [.bp 0 0, .own 1, .i x.1]
def v2l : q30T → St := fun x => [.box [.str x.2.1, .str x.2.2.1, .bool x.2.2.2.1], .arr tWrite x.2.2.2.2]
def vny : Nat → Option LoopSpec
  | 6000001 => some (ctS [3, 5, 6] [] [.bp 0 0, .own 1, .i] [.box [.str, .str, .bool], .arr tWrite] vdc (fun p q => (p.2.2.1, q.1.1, q.1.2.1, q.1.2.2.1, q.2.1)) (fun k => (onE (exZ .norm vgt vfq) k)))
  | 0 => some (lpS [3, 5, 6] [] [.bp 0 0, .own 1, .i] [.box [.str, .str, .bool], .arr tWrite] vlr (fun p q => (p.2.2.1, q.1.1, q.1.2.1, q.1.2.2.1, q.2.1)) (fun k => (onE (exZ (.exit 0) v03 v2l) k)))
  | 2000003 => some ⟨[0, 2, 4, 6, 8, 10, 12, 14, 16, 18, 20, 22, 24, 26], [], fun _ _ _ => none⟩
  | 2000005 => some ⟨[0, 2, 4, 6, 8, 10, 12, 14, 16, 18, 20, 22, 24, 26], [], fun _ _ _ => none⟩
  | _ => none
theorem vsr : CtAt G48 ⟨0, 49, vny⟩ Try.f113 6000001 :=
  vdt rfl (fun x => (n04n_jp6000001 x).p) vgt vfq (exZ .norm vgt vfq) (fun _ _ => ⟨rfl, rfl⟩) (fun _ _ => rfl) (fun x => by kernel_rfl)
theorem wdh : LpAt G48 ⟨0, 49, vny⟩ Try.f113 0 :=
  vaw rfl (fun x => (n04n_bp0 x).p) v03 v2l (exZ (.exit 0) v03 v2l) (fun _ _ => ⟨rfl, rfl⟩) (fun z => by (intro h; cases h)) (fun _ _ => rfl) (fun x => by kernel_rfl)
theorem wi5 : vad Try.prog 113 wg7 :=
  vao G48_ok follows (Try.f113.body.getD .skip) Try.func113 (by kernel_rfl) fun p q => ⟨vny, (n04n_p _ _).p.map _, by rw [v9i]; kernel_rfl, vab (ids := [6000001, 0]) (by kernel_rfl) (by kernel_rfl) ⟨vsr, ⟨wdh, trivial⟩⟩⟩
def G49 : Glob := G48.add 113 wg7
theorem G49_ok : GlobOk Try.prog G49 := G48_ok.add ⟨Try.f113, Try.func113, by kernel_rfl, by kernel_rfl⟩ wi5
def vgs : q20T → List AV := fun x => [.bp 0 0, .bp 1 0, .bp 2 0, .bool x.1, .bp 3 0]
def vft : q20T → St := fun x => let xh := x.2.2.2.2.2.2.2.2; let xhh := xh.2.2.2.2.2.2.2.2; let xhhh := xhh.2.2.2.2.2.2.2.2; [.box [.i x.2.1, .i x.2.2.1, .i x.2.2.2.1, .i x.2.2.2.2.1, .lst tRange x.2.2.2.2.2.1, .lst tWrite x.2.2.2.2.2.2.1, .bool x.2.2.2.2.2.2.2.1, .str xh.1], .box [.str xh.2.1, .str xh.2.2.1, .bool xh.2.2.2.1], .box [.i xh.2.2.2.2.1, .i xh.2.2.2.2.2.1, .i xh.2.2.2.2.2.2.1, .i xh.2.2.2.2.2.2.2.1, .own 4, .own 5, .bool xhh.1, .str xhh.2.1], .box [.i xhh.2.2.1, .i xhh.2.2.2.1, .i xhh.2.2.2.2.1, .i xhh.2.2.2.2.2.1, .own 6, .own 7, .bool xhh.2.2.2.2.2.2.1, .str xhh.2.2.2.2.2.2.2.1], .arr tRange xhhh.1, .arr tWrite xhhh.2.1, .arr tRange xhhh.2.2.1, .arr tWrite xhhh.2.2.2]
def vjs : q21T → Out × List AV × St := fun z => let zh := z.2.2.2.2.2.2.2.2; let zhh := zh.2.2.2.2.2.2.2.2; let zhhh := zhh.2.2.2.2.2.2.2.2; (.ret, [.bp 0 0, .bp 1 0, .bp 2 0, .bool z.1, .bp 3 0], [.box [.i z.2.1, .i z.2.2.1, .i z.2.2.2.1, .i z.2.2.2.2.1, .lst tRange z.2.2.2.2.2.1, .lst tWrite z.2.2.2.2.2.2.1, .bool z.2.2.2.2.2.2.2.1, .str zh.1], .box [.str zh.2.1, .str zh.2.2.1, .bool zh.2.2.2.1], .box [.i zh.2.2.2.2.1, .i zh.2.2.2.2.2.1, .i zh.2.2.2.2.2.2.1, .i zh.2.2.2.2.2.2.2.1, .own 4, .own 5, .bool zhh.1, .str zhh.2.1], .box [.i zhh.2.2.1, .i zhh.2.2.2.1, .i zhh.2.2.2.2.1, .i zhh.2.2.2.2.2.1, .own 4, .own 5, .bool zhh.2.2.2.2.2.2.1, .str zhh.2.2.2.2.2.2.2.1], .arr tRange zhhh.1, .arr tWrite zhhh.2])
def vuw : Nat → Option LoopSpec
  | 5000004 => some (ctS [2, 3, 4, 5, 6] [none, none, none, none, none, none, none, none, none, none, none, none, none, none, none, none, none, none, none, none, some tRange, some tWrite] [.bp 0 0, .bp 1 0, .bp 2 0, .bool, .bp 3 0] [.box [.i, .i, .i, .i, .lst tRange, .lst tWrite, .bool, .str], .box [.str, .str, .bool], .box [.i, .i, .i, .i, .own 4, .own 5, .bool, .str], .box [.i, .i, .i, .i, .own 6, .own 7, .bool, .str], .arr tRange, .arr tWrite, .arr tRange, .arr tWrite] vcw (fun p q => (p.2.2.2.1, q.1.1, q.1.2.1, q.1.2.2.1, q.1.2.2.2.1, q.1.2.2.2.2.1, q.1.2.2.2.2.2.1, q.1.2.2.2.2.2.2.1, q.1.2.2.2.2.2.2.2.1, q.2.1.1, q.2.1.2.1, q.2.1.2.2.1, q.2.2.1.1, q.2.2.1.2.1, q.2.2.1.2.2.1, q.2.2.1.2.2.2.1, q.2.2.1.2.2.2.2.2.2.1, q.2.2.1.2.2.2.2.2.2.2.1, q.2.2.2.1.1, q.2.2.2.1.2.1, q.2.2.2.1.2.2.1, q.2.2.2.1.2.2.2.1, q.2.2.2.1.2.2.2.2.2.2.1, q.2.2.2.1.2.2.2.2.2.2.2.1, q.2.2.2.2.1, q.2.2.2.2.2.1, q.2.2.2.2.2.2.1, q.2.2.2.2.2.2.2.1)) (fun k => (Sum.elim (onE vjs k) (onE (exZ .ret vgs vft) k))))
  | _ => none
theorem vs9 : CtAt G49 ⟨0, 34, vuw⟩ Try.f39 5000004 :=
  vdt rfl (fun x => (n07n_jp5000004 x).p) vgs vft (Sum.elim (vjs) ((exZ .ret vgs vft))) (fun _ _ => ⟨rfl, rfl⟩) (fun k z => by rcases z with z | z <;> rfl) (fun x => by kernel_rfl)
theorem wj6 : vad Try.prog 39 whe :=
  vao G49_ok follows (Try.f39.body.getD .skip) Try.func39 (by kernel_rfl) fun p q => ⟨vuw, (n07n_p _ _).p.map _, by rw [v8y]; kernel_rfl, vab (ids := [5000004]) (by kernel_rfl) (by kernel_rfl) ⟨vs9, trivial⟩⟩
def G50 : Glob := G49.add 39 whe
theorem G50_ok : GlobOk Try.prog G50 := G49_ok.add ⟨Try.f39, Try.func39, by kernel_rfl, by kernel_rfl⟩ wj6
def v7h : Nat → Option LoopSpec
  | _ => none
theorem wjb : vad Try.prog 53 wg6 :=
  vao G50_ok follows (Try.f53.body.getD .skip) Try.func53 (by kernel_rfl) fun p q => ⟨v7h, (n03n_p _ _ _).p.map _, by rw [wb1]; kernel_rfl, vab (ids := []) (by kernel_rfl) (by kernel_rfl) trivial⟩
def G51 : Glob := G50.add 53 wg6
theorem G51_ok : GlobOk Try.prog G51 := G50_ok.add ⟨Try.f53, Try.func53, by kernel_rfl, by kernel_rfl⟩ wjb
def v6i : Nat → Option LoopSpec
  | _ => none
theorem wkw : vad Try.prog 78 wg1 :=
  vao G51_ok follows (Try.f78.body.getD .skip) Try.func78 (by kernel_rfl) fun p q => ⟨v6i, (n22n_p _ _).p.map _, by rw [wbu]; kernel_rfl, vab (ids := []) (by kernel_rfl) (by kernel_rfl) trivial⟩
def G52 : Glob := G51.add 78 wg1
theorem G52_ok : GlobOk Try.prog G52 := G51_ok.add ⟨Try.f78, Try.func78, by kernel_rfl, by kernel_rfl⟩ wkw
def vrq : q8T → List AV := fun x => [.lst tVersion x.1, .lst tVersion x.2.1, .bool x.2.2.1, .i x.2.2.2]
def vrc : q8T → St := fun x => []
def vvm : Nat → Option LoopSpec
  | 0 => some (lpS [0, 1, 4, 5] [] [.lst tVersion, .lst tVersion, .bool, .i] [] vjt (fun p q => (p.1, p.2.1, p.2.2.1, p.2.2.2.1)) (fun k => (Sum.elim (onE (exZ .ret vrq vrc) k) (onE (exZ (.exit 0) vrq vrc) k))))
  | 2000006 => some ⟨[0, 2, 4, 6, 8, 10, 12, 14, 16, 18], [], fun _ _ _ => none⟩
  | _ => none
theorem wfb : LpAt G52 ⟨0, 27, vvm⟩ Try.f19 0 :=
  vaw rfl (fun x => (n23n_bp0 x).p) vrq vrc (Sum.elim ((exZ .ret vrq vrc)) ((exZ (.exit 0) vrq vrc))) (fun _ _ => ⟨rfl, rfl⟩) (fun z => by rcases z with z | z <;> (intro h; cases h)) (fun k z => by rcases z with z | z <;> rfl) (fun x => by kernel_rfl)
theorem wlb : vad Try.prog 19 whl :=
  vao G52_ok follows (Try.f19.body.getD .skip) Try.func19 (by kernel_rfl) fun p q => ⟨vvm, (n23n_p _ _).p.map _, by rw [wbg]; kernel_rfl, vab (ids := [0]) (by kernel_rfl) (by kernel_rfl) ⟨wfb, trivial⟩⟩
def G53 : Glob := G52.add 19 whl
theorem G53_ok : GlobOk Try.prog G53 := G52_ok.add ⟨Try.f19, Try.func19, by kernel_rfl, by kernel_rfl⟩ wlb
def v56 : Nat → Option LoopSpec
  | _ => none
theorem wjn : vad Try.prog 149 wf9 :=
  vao G53_ok follows (Try.f149.body.getD .skip) Try.func149 (by kernel_rfl) fun p q => ⟨v56, (n18n_p _ _).p.map _, by rw [v70]; kernel_rfl, vab (ids := []) (by kernel_rfl) (by kernel_rfl) trivial⟩
def G54 : Glob := G53.add 149 wf9
theorem G54_ok : GlobOk Try.prog G54 := G53_ok.add ⟨Try.f149, Try.func149, by kernel_rfl, by kernel_rfl⟩ wjn
def vqo : q0T → List AV := fun x => [.lst tRange x.1, .lst tRange x.2.1, .bool x.2.2.1, .i x.2.2.2]
def vr3 : q0T → St := fun x => []
def vtl : Nat → Option LoopSpec
  | 0 => some (lpS [0, 1, 4, 5] [] [.lst tRange, .lst tRange, .bool, .i] [] vj7 (fun p q => (p.1, p.2.1, p.2.2.1, p.2.2.2.1)) (fun k => (Sum.elim (onE (exZ .ret vqo vr3) k) (onE (exZ (.exit 0) vqo vr3) k))))
  | 2000006 => some ⟨[0, 2, 4, 6, 8, 10, 12, 14, 16, 18], [], fun _ _ _ => none⟩
  | _ => none
theorem wb6 : LpAt G54 ⟨0, 27, vtl⟩ Try.f76 0 :=
  vaw rfl (fun x => (n19n_bp0 x).p) vqo vr3 (Sum.elim ((exZ .ret vqo vr3)) ((exZ (.exit 0) vqo vr3))) (fun _ _ => ⟨rfl, rfl⟩) (fun z => by rcases z with z | z <;> (intro h; cases h)) (fun k z => by rcases z with z | z <;> rfl) (fun x => by kernel_rfl)
theorem wjj : vad Try.prog 76 wgd :=
  vao G54_ok follows (Try.f76.body.getD .skip) Try.func76 (by kernel_rfl) fun p q => ⟨vtl, (n19n_p _ _).p.map _, by rw [v80]; kernel_rfl, vab (ids := [0]) (by kernel_rfl) (by kernel_rfl) ⟨wb6, trivial⟩⟩
def G55 : Glob := G54.add 76 wgd
theorem G55_ok : GlobOk Try.prog G55 := G54_ok.add ⟨Try.f76, Try.func76, by kernel_rfl, by kernel_rfl⟩ wjj
def v5t : Nat → Option LoopSpec
  | _ => none
theorem wj4 : vad Try.prog 150 wg2 :=
  vao G55_ok follows (Try.f150.body.getD .skip) Try.func150 (by kernel_rfl) fun p q => ⟨v5t, (n24n_p _ _).p.map _, by rw [v7w]; kernel_rfl, vab (ids := []) (by kernel_rfl) (by kernel_rfl) trivial⟩
def G56 : Glob := G55.add 150 wg2
theorem G56_ok : GlobOk Try.prog G56 := G55_ok.add ⟨Try.f150, Try.func150, by kernel_rfl, by kernel_rfl⟩ wj4
def vqp : q11T → List AV := fun x => [.lst tWrite x.1, .lst tWrite x.2.1, .bool x.2.2.1, .i x.2.2.2]
def vr9 : q11T → St := fun x => []
def vty : Nat → Option LoopSpec
  | 0 => some (lpS [0, 1, 4, 5] [] [.lst tWrite, .lst tWrite, .bool, .i] [] vkc (fun p q => (p.1, p.2.1, p.2.2.1, p.2.2.2.1)) (fun k => (Sum.elim (onE (exZ .ret vqp vr9) k) (onE (exZ (.exit 0) vqp vr9) k))))
  | 2000006 => some ⟨[0, 2, 4, 6, 8, 10, 12, 14, 16, 18], [], fun _ _ _ => none⟩
  | _ => none
theorem wcs : LpAt G56 ⟨0, 27, vty⟩ Try.f77 0 :=
  vaw rfl (fun x => (n25n_bp0 x).p) vqp vr9 (Sum.elim ((exZ .ret vqp vr9)) ((exZ (.exit 0) vqp vr9))) (fun _ _ => ⟨rfl, rfl⟩) (fun z => by rcases z with z | z <;> (intro h; cases h)) (fun k z => by rcases z with z | z <;> rfl) (fun x => by kernel_rfl)
theorem wlc : vad Try.prog 77 whk :=
  vao G56_ok follows (Try.f77.body.getD .skip) Try.func77 (by kernel_rfl) fun p q => ⟨vty, (n25n_p _ _).p.map _, by rw [v8u]; kernel_rfl, vab (ids := [0]) (by kernel_rfl) (by kernel_rfl) ⟨wcs, trivial⟩⟩
def G57 : Glob := G56.add 77 whk
theorem G57_ok : GlobOk Try.prog G57 := G56_ok.add ⟨Try.f77, Try.func77, by kernel_rfl, by kernel_rfl⟩ wlc
def v6j : Nat → Option LoopSpec
  | _ => none
theorem wjv : vad Try.prog 18 wgi :=
  vao G57_ok follows (Try.f18.body.getD .skip) Try.func18 (by kernel_rfl) fun p q => ⟨v6j, (n20n_p _ _).p.map _, by rw [wb2]; kernel_rfl, vab (ids := []) (by kernel_rfl) (by kernel_rfl) trivial⟩
def G58 : Glob := G57.add 18 wgi
theorem G58_ok : GlobOk Try.prog G58 := G57_ok.add ⟨Try.f18, Try.func18, by kernel_rfl, by kernel_rfl⟩ wjv
def vrw : q3T → List AV := fun x => [.lst tTxn x.1, .lst tTxn x.2.1, .bool x.2.2.1, .i x.2.2.2]
def vqu : q3T → St := fun x => []
def vvo : Nat → Option LoopSpec
  | 0 => some (lpS [0, 1, 4, 5] [] [.lst tTxn, .lst tTxn, .bool, .i] [] vi8 (fun p q => (p.1, p.2.1, p.2.2.1, p.2.2.2.1)) (fun k => (Sum.elim (onE (exZ .ret vrw vqu) k) (onE (exZ (.exit 0) vrw vqu) k))))
  | 2000006 => some ⟨[0, 2, 4, 6, 8, 10, 12, 14, 16, 18], [], fun _ _ _ => none⟩
  | _ => none
theorem wc0 : LpAt G58 ⟨0, 27, vvo⟩ Try.f134 0 :=
  vaw rfl (fun x => (n21n_bp0 x).p) vrw vqu (Sum.elim ((exZ .ret vrw vqu)) ((exZ (.exit 0) vrw vqu))) (fun _ _ => ⟨rfl, rfl⟩) (fun z => by rcases z with z | z <;> (intro h; cases h)) (fun k z => by rcases z with z | z <;> rfl) (fun x => by kernel_rfl)
theorem wjy : vad Try.prog 134 wgt :=
  vao G58_ok follows (Try.f134.body.getD .skip) Try.func134 (by kernel_rfl) fun p q => ⟨vvo, (n21n_p _ _).p.map _, by rw [v7y]; kernel_rfl, vab (ids := [0]) (by kernel_rfl) (by kernel_rfl) ⟨wc0, trivial⟩⟩
def G59 : Glob := G58.add 134 wgt
theorem G59_ok : GlobOk Try.prog G59 := G58_ok.add ⟨Try.f134, Try.func134, by kernel_rfl, by kernel_rfl⟩ wjy
def v65 : Nat → Option LoopSpec
  | _ => none
theorem wk5 : vad Try.prog 63 wgy :=
  vao G59_ok follows (Try.f63.body.getD .skip) Try.func63 (by kernel_rfl) fun p q => ⟨v65, (n16n_p _ _).p.map _, by rw [v4h]; kernel_rfl, vab (ids := []) (by kernel_rfl) (by kernel_rfl) trivial⟩
def G60 : Glob := G59.add 63 wgy
theorem G60_ok : GlobOk Try.prog G60 := G59_ok.add ⟨Try.f63, Try.func63, by kernel_rfl, by kernel_rfl⟩ wk5
def v61 : Nat → Option LoopSpec
  | _ => none
theorem wkb : vad Try.prog 54 wf2 :=
  vao G60_ok follows (Try.f54.body.getD .skip) Try.func54 (by kernel_rfl) fun p q => ⟨v61, (n17n_p _ _).p.map _, by rw [v3g]; kernel_rfl, vab (ids := []) (by kernel_rfl) (by kernel_rfl) trivial⟩
def G61 : Glob := G60.add 54 wf2
theorem G61_ok : GlobOk Try.prog G61 := G60_ok.add ⟨Try.f54, Try.func54, by kernel_rfl, by kernel_rfl⟩ wkb
def v1d : (Int × ByteArray) → List AV := fun x => [.i x.1, .str x.2]
def v2q : (Int × ByteArray) → St := fun x => []
def vua : Nat → Option LoopSpec
  | 0 => some (lpS [0, 3] [] [.i, .str] [] vl6 (fun p q => (p.1, p.2.1)) (fun k => (onE (exZ (.exit 0) v1d v2q) k)))
  | _ => none
theorem wfa : LpAt G61 ⟨0, 20, vua⟩ Try.f81 0 :=
  vaw rfl (fun x => (n35n_bp0 x).p) v1d v2q (exZ (.exit 0) v1d v2q) (fun _ _ => ⟨rfl, rfl⟩) (fun z => by (intro h; cases h)) (fun _ _ => rfl) (fun x => by kernel_rfl)
theorem wkt : vad Try.prog 81 whc :=
  vao G61_ok follows (Try.f81.body.getD .skip) Try.func81 (by kernel_rfl) fun p q => ⟨vua, (n35n_p _).p.map _, by rw [v97]; kernel_rfl, vab (ids := [0]) (by kernel_rfl) (by kernel_rfl) ⟨wfa, trivial⟩⟩
def G62 : Glob := G61.add 81 whc
theorem G62_ok : GlobOk Try.prog G62 := G61_ok.add ⟨Try.f81, Try.func81, by kernel_rfl, by kernel_rfl⟩ wkt
def v1h : (Int × Int × (List vac)) → List AV := fun x => [.own 0, .i x.1, .i x.2.1]
def v15 : (Int × Int × (List vac)) → St := fun x => [.arr tVersion x.2.2]
def vvs : Nat → Option LoopSpec
  | 0 => some (lpS [0, 1, 5] [] [.own 0, .i, .i] [.arr tVersion] vji (fun p q => (p.2.1, p.2.2.1, q.1)) (fun k => (onE (exZ (.exit 0) v1h v15) k)))
  | _ => none
theorem we3 : LpAt G62 ⟨1, 45, vvs⟩ Try.f21 0 :=
  vaw rfl (fun x => (n37n_bp0 x).p) v1h v15 (exZ (.exit 0) v1h v15) (fun _ _ => ⟨rfl, rfl⟩) (fun z => by (intro h; cases h)) (fun _ _ => rfl) (fun x => by kernel_rfl)
theorem vme : vad Try.prog 21 ve4 :=
  vao G62_ok follows (Try.f21.body.getD .skip) Try.func21 (by kernel_rfl) fun p q => ⟨vvs, (n37n_p _ _).p.map _, by rw [v99]; kernel_rfl, vab (ids := [0]) (by kernel_rfl) (by kernel_rfl) ⟨we3, trivial⟩⟩
def G63 : Glob := G62.add 21 ve4
theorem G63_ok : GlobOk Try.prog G63 := G62_ok.add ⟨Try.f21, Try.func21, by kernel_rfl, by kernel_rfl⟩ vme
def v1x : (Int × Int × (List vag)) → List AV := fun x => [.own 0, .i x.1, .i x.2.1]
def v0y : (Int × Int × (List vag)) → St := fun x => [.arr tRange x.2.2]
def vt0 : Nat → Option LoopSpec
  | 0 => some (lpS [0, 1, 5] [] [.own 0, .i, .i] [.arr tRange] vlm (fun p q => (p.2.1, p.2.2.1, q.1)) (fun k => (onE (exZ (.exit 0) v1x v0y) k)))
  | _ => none
theorem weq : LpAt G63 ⟨1, 29, vt0⟩ Try.f79 0 :=
  vaw rfl (fun x => (n34n_bp0 x).p) v1x v0y (exZ (.exit 0) v1x v0y) (fun _ _ => ⟨rfl, rfl⟩) (fun z => by (intro h; cases h)) (fun _ _ => rfl) (fun x => by kernel_rfl)
theorem vns : vad Try.prog 79 vg3 :=
  vao G63_ok follows (Try.f79.body.getD .skip) Try.func79 (by kernel_rfl) fun p q => ⟨vt0, (n34n_p _ _).p.map _, by rw [wad]; kernel_rfl, vab (ids := [0]) (by kernel_rfl) (by kernel_rfl) ⟨weq, trivial⟩⟩
def G64 : Glob := G63.add 79 vg3
theorem G64_ok : GlobOk Try.prog G64 := G63_ok.add ⟨Try.f79, Try.func79, by kernel_rfl, by kernel_rfl⟩ vns
def v0p : (Int × Int × (List vaa)) → List AV := fun x => [.own 0, .i x.1, .i x.2.1]
def v11 : (Int × Int × (List vaa)) → St := fun x => [.arr tWrite x.2.2]
def vu1 : Nat → Option LoopSpec
  | 0 => some (lpS [0, 1, 5] [] [.own 0, .i, .i] [.arr tWrite] vl2 (fun p q => (p.2.1, p.2.2.1, q.1)) (fun k => (onE (exZ (.exit 0) v0p v11) k)))
  | _ => none
theorem wea : LpAt G64 ⟨1, 38, vu1⟩ Try.f80 0 :=
  vaw rfl (fun x => (n38n_bp0 x).p) v0p v11 (exZ (.exit 0) v0p v11) (fun _ _ => ⟨rfl, rfl⟩) (fun z => by (intro h; cases h)) (fun _ _ => rfl) (fun x => by kernel_rfl)
theorem vn3 : vad Try.prog 80 vg5 :=
  vao G64_ok follows (Try.f80.body.getD .skip) Try.func80 (by kernel_rfl) fun p q => ⟨vu1, (n38n_p _ _).p.map _, by rw [wbr]; kernel_rfl, vab (ids := [0]) (by kernel_rfl) (by kernel_rfl) ⟨wea, trivial⟩⟩
def G65 : Glob := G64.add 80 vg5
theorem G65_ok : GlobOk Try.prog G65 := G64_ok.add ⟨Try.f80, Try.func80, by kernel_rfl, by kernel_rfl⟩ vn3
def vgd : (Int × Int × (List dTxn)) → List AV := fun x => [.own 0, .i x.1, .i x.2.1]
def vfz : (Int × Int × (List dTxn)) → St := fun x => [.dep tTxn x.2.2 0]
def vgi : (Int × Int × (List dTxn)) → List AV := fun x => [.own 0, .i x.1, .i x.2.1]
def vgl : (Int × Int × (List dTxn)) → St := fun x => [.dep tTxn x.2.2 0]
def vgk : (Int × Int × (List dTxn)) → List AV := fun x => [.own 0, .i x.1, .i x.2.1]
def vf3 : (Int × Int × (List dTxn)) → St := fun x => [.dep tTxn x.2.2 0]
def vgb : (Int × Int × (List dTxn)) → List AV := fun x => [.own 0, .i x.1, .i x.2.1]
def vgq : (Int × Int × (List dTxn)) → St := fun x => [.dep tTxn x.2.2 0]
def vf7 : (Int × Int × (List dTxn)) → List AV := fun x => [.own 0, .i x.1, .i x.2.1]
def vgy : (Int × Int × (List dTxn)) → St := fun x => [.dep tTxn x.2.2 0]
def vgo : (Int × Int × (List dTxn)) → List AV := fun x => [.own 0, .i x.1, .i x.2.1]
def vgv : (Int × Int × (List dTxn)) → St := fun x => [.dep tTxn x.2.2 0]
def vgm : (Int × Int × (List dTxn)) → List AV := fun x => [.own 0, .i x.1, .i x.2.1]
def vfs : (Int × Int × (List dTxn)) → St := fun x => [.dep tTxn x.2.2 0]
def v2e : (Int × Int × (List dTxn)) → List AV := fun x => [.own 0, .i x.1, .i x.2.1]
def v2i : (Int × Int × (List dTxn)) → St := fun x => [.dep tTxn x.2.2 0]
def vcr : Nat → Option LoopSpec
  | 5000003 => some (ctS [0, 1, 5] [] [.own 0, .i, .i] [.dep tTxn 0] vde (fun p q => (p.2.1, p.2.2.1, q.1)) (fun k => (onE (exZ .norm vgd vfz) k)))
  | 5000017 => some (ctS [0, 1, 5] [] [.own 0, .i, .i] [.dep tTxn 0] vdk (fun p q => (p.2.1, p.2.2.1, q.1)) (fun k => (onE (exZ .norm vgi vgl) k)))
  | 5000015 => some (ctS [0, 1, 5] [] [.own 0, .i, .i] [.dep tTxn 0] vdm (fun p q => (p.2.1, p.2.2.1, q.1)) (fun k => (onE (exZ .norm vgk vf3) k)))
  | 5000011 => some (ctS [0, 1, 5] [] [.own 0, .i, .i] [.dep tTxn 0] vdo (fun p q => (p.2.1, p.2.2.1, q.1)) (fun k => (onE (exZ .norm vgb vgq) k)))
  | 5000009 => some (ctS [0, 1, 5] [] [.own 0, .i, .i] [.dep tTxn 0] vdn (fun p q => (p.2.1, p.2.2.1, q.1)) (fun k => (onE (exZ .norm vf7 vgy) k)))
  | 5000007 => some (ctS [0, 1, 5] [] [.own 0, .i, .i] [.dep tTxn 0] vdl (fun p q => (p.2.1, p.2.2.1, q.1)) (fun k => (onE (exZ .norm vgo vgv) k)))
  | 5000005 => some (ctS [0, 1, 5] [] [.own 0, .i, .i] [.dep tTxn 0] vdq (fun p q => (p.2.1, p.2.2.1, q.1)) (fun k => (onE (exZ .norm vgm vfs) k)))
  | 0 => some (lpS [0, 1, 5] [] [.own 0, .i, .i] [.dep tTxn 0] vj4 (fun p q => (p.2.1, p.2.2.1, q.1)) (fun k => (onE (exZ (.exit 0) v2e v2i) k)))
  | _ => none
theorem vta : CtAt G65 ⟨1, 72, vcr⟩ Try.f136 5000003 :=
  vdt rfl (fun x => (n36n_jp5000003 x).p) vgd vfz (exZ .norm vgd vfz) (fun _ _ => ⟨rfl, rfl⟩) (fun _ _ => rfl) (fun x => by kernel_rfl)
theorem vtj : CtAt G65 ⟨1, 72, vcr⟩ Try.f136 5000017 :=
  vdt rfl (fun x => (n36n_jp5000017 x).p) vgi vgl (exZ .norm vgi vgl) (fun _ _ => ⟨rfl, rfl⟩) (fun _ _ => rfl) (fun x => by kernel_rfl)
theorem vs0 : CtAt G65 ⟨1, 72, vcr⟩ Try.f136 5000015 :=
  vdt rfl (fun x => (n36n_jp5000015 x).p) vgk vf3 (exZ .norm vgk vf3) (fun _ _ => ⟨rfl, rfl⟩) (fun _ _ => rfl) (fun x => by kernel_rfl)
theorem vtd : CtAt G65 ⟨1, 72, vcr⟩ Try.f136 5000011 :=
  vdt rfl (fun x => (n36n_jp5000011 x).p) vgb vgq (exZ .norm vgb vgq) (fun _ _ => ⟨rfl, rfl⟩) (fun _ _ => rfl) (fun x => by kernel_rfl)
theorem vst : CtAt G65 ⟨1, 72, vcr⟩ Try.f136 5000009 :=
  vdt rfl (fun x => (n36n_jp5000009 x).p) vf7 vgy (exZ .norm vf7 vgy) (fun _ _ => ⟨rfl, rfl⟩) (fun _ _ => rfl) (fun x => by kernel_rfl)
theorem vsw : CtAt G65 ⟨1, 72, vcr⟩ Try.f136 5000007 :=
  vdt rfl (fun x => (n36n_jp5000007 x).p) vgo vgv (exZ .norm vgo vgv) (fun _ _ => ⟨rfl, rfl⟩) (fun _ _ => rfl) (fun x => by kernel_rfl)
theorem vsv : CtAt G65 ⟨1, 72, vcr⟩ Try.f136 5000005 :=
  vdt rfl (fun x => (n36n_jp5000005 x).p) vgm vfs (exZ .norm vgm vfs) (fun _ _ => ⟨rfl, rfl⟩) (fun _ _ => rfl) (fun x => by kernel_rfl)
theorem wd5 : LpAt G65 ⟨1, 72, vcr⟩ Try.f136 0 :=
  vaw rfl (fun x => (n36n_bp0 x).p) v2e v2i (exZ (.exit 0) v2e v2i) (fun _ _ => ⟨rfl, rfl⟩) (fun z => by (intro h; cases h)) (fun _ _ => rfl) (fun x => by kernel_rfl)
theorem vrv : vad Try.prog 136 vix :=
  vao G65_ok follows (Try.f136.body.getD .skip) Try.func136 (by kernel_rfl) fun p q => ⟨vcr, (n36n_p _ _).p.map _, by rw [v9j]; kernel_rfl, vab (ids := [5000003, 5000017, 5000015, 5000011, 5000009, 5000007, 5000005, 0]) (by kernel_rfl) (by kernel_rfl) ⟨vta, ⟨vtj, ⟨vs0, ⟨vtd, ⟨vst, ⟨vsw, ⟨vsv, ⟨wd5, trivial⟩⟩⟩⟩⟩⟩⟩⟩⟩
def G66 : Glob := G65.add 136 vix
theorem G66_ok : GlobOk Try.prog G66 := G65_ok.add ⟨Try.f136, Try.func136, by kernel_rfl, by kernel_rfl⟩ vrv
def v7m : Nat → Option LoopSpec
  | _ => none
theorem vq6 : vad Try.prog 135 vkm :=
  vao G66_ok follows (Try.f135.body.getD .skip) Try.func135 (by kernel_rfl) fun p q => ⟨v7m, (n32n_p _ _ _ _ _ _).p.map _, by rw [v9g]; kernel_rfl, vab (ids := []) (by kernel_rfl) (by kernel_rfl) trivial⟩
def G67 : Glob := G66.add 135 vkm
theorem G67_ok : GlobOk Try.prog G67 := G66_ok.add ⟨Try.f135, Try.func135, by kernel_rfl, by kernel_rfl⟩ vq6
def v5u : Nat → Option LoopSpec
  | _ => none
theorem voa : vad Try.prog 55 vg1 :=
  vao G67_ok follows (Try.f55.body.getD .skip) Try.func55 (by kernel_rfl) fun p q => ⟨v5u, (n33n_p _ _ _ _ _ _ _).p.map _, by rw [v8e]; kernel_rfl, vab (ids := []) (by kernel_rfl) (by kernel_rfl) trivial⟩
def G68 : Glob := G67.add 55 vg1
theorem G68_ok : GlobOk Try.prog G68 := G67_ok.add ⟨Try.f55, Try.func55, by kernel_rfl, by kernel_rfl⟩ voa
def vsc : q10T → List AV := fun x => [.lst tVersion x.1, .i x.2.1, .i x.2.2.1, .i x.2.2.2]
def vqk : q10T → St := fun x => []
def vvx : Nat → Option LoopSpec
  | 0 => some (lpS [0, 1, 4, 5] [] [.lst tVersion, .i, .i, .i] [] vki (fun p q => (p.1, p.2.1, p.2.2.1, p.2.2.2.1)) (fun k => (Sum.elim (onE (exZ .ret vsc vqk) k) (onE (exZ (.exit 0) vsc vqk) k))))
  | 2000004 => some ⟨[0, 2, 4, 6, 8, 10, 13, 14], [], fun _ _ _ => none⟩
  | 2000007 => some ⟨[0, 2, 4, 6, 8, 10, 13, 14], [], fun _ _ _ => none⟩
  | _ => none
theorem we5 : LpAt G68 ⟨0, 53, vvx⟩ Try.f193 0 :=
  vaw rfl (fun x => (n30n_bp0 x).p) vsc vqk (Sum.elim ((exZ .ret vsc vqk)) ((exZ (.exit 0) vsc vqk))) (fun _ _ => ⟨rfl, rfl⟩) (fun z => by rcases z with z | z <;> (intro h; cases h)) (fun k z => by rcases z with z | z <;> rfl) (fun x => by kernel_rfl)
theorem wjd : vad Try.prog 193 wf5 :=
  vao G68_ok follows (Try.f193.body.getD .skip) Try.func193 (by kernel_rfl) fun p q => ⟨vvx, (n30n_p _ _).p.map _, by rw [v87]; kernel_rfl, vab (ids := [0]) (by kernel_rfl) (by kernel_rfl) ⟨we5, trivial⟩⟩
def G69 : Glob := G68.add 193 wf5
theorem G69_ok : GlobOk Try.prog G69 := G68_ok.add ⟨Try.f193, Try.func193, by kernel_rfl, by kernel_rfl⟩ wjd
def vqj : q2T → List AV := fun x => [.lst tRange x.1, .i x.2.1, .i x.2.2.1, .i x.2.2.2]
def vrb : q2T → St := fun x => []
def vvw : Nat → Option LoopSpec
  | 0 => some (lpS [0, 1, 4, 5] [] [.lst tRange, .i, .i, .i] [] vjq (fun p q => (p.1, p.2.1, p.2.2.1, p.2.2.2.1)) (fun k => (Sum.elim (onE (exZ .ret vqj vrb) k) (onE (exZ (.exit 0) vqj vrb) k))))
  | 2000004 => some ⟨[0, 2, 4, 6, 8, 10, 13, 14], [], fun _ _ _ => none⟩
  | 2000007 => some ⟨[0, 2, 4, 6, 8, 10, 13, 14], [], fun _ _ _ => none⟩
  | _ => none
theorem wdg : LpAt G69 ⟨0, 33, vvw⟩ Try.f194 0 :=
  vaw rfl (fun x => (n28n_bp0 x).p) vqj vrb (Sum.elim ((exZ .ret vqj vrb)) ((exZ (.exit 0) vqj vrb))) (fun _ _ => ⟨rfl, rfl⟩) (fun z => by rcases z with z | z <;> (intro h; cases h)) (fun k z => by rcases z with z | z <;> rfl) (fun x => by kernel_rfl)
theorem wjr : vad Try.prog 194 wg8 :=
  vao G69_ok follows (Try.f194.body.getD .skip) Try.func194 (by kernel_rfl) fun p q => ⟨vvw, (n28n_p _ _).p.map _, by rw [wbm]; kernel_rfl, vab (ids := [0]) (by kernel_rfl) (by kernel_rfl) ⟨wdg, trivial⟩⟩
def G70 : Glob := G69.add 194 wg8
theorem G70_ok : GlobOk Try.prog G70 := G69_ok.add ⟨Try.f194, Try.func194, by kernel_rfl, by kernel_rfl⟩ wjr
def vq1 : q15T → List AV := fun x => [.lst tWrite x.1, .i x.2.1, .i x.2.2.1, .i x.2.2.2]
def vqz : q15T → St := fun x => []
def vu4 : Nat → Option LoopSpec
  | 0 => some (lpS [0, 1, 4, 5] [] [.lst tWrite, .i, .i, .i] [] vj2 (fun p q => (p.1, p.2.1, p.2.2.1, p.2.2.2.1)) (fun k => (Sum.elim (onE (exZ .ret vq1 vqz) k) (onE (exZ (.exit 0) vq1 vqz) k))))
  | 2000004 => some ⟨[0, 2, 4, 6, 8, 10, 13, 14], [], fun _ _ _ => none⟩
  | 2000007 => some ⟨[0, 2, 4, 6, 8, 10, 13, 14], [], fun _ _ _ => none⟩
  | _ => none
theorem wdy : LpAt G70 ⟨0, 44, vu4⟩ Try.f195 0 :=
  vaw rfl (fun x => (n31n_bp0 x).p) vq1 vqz (Sum.elim ((exZ .ret vq1 vqz)) ((exZ (.exit 0) vq1 vqz))) (fun _ _ => ⟨rfl, rfl⟩) (fun z => by rcases z with z | z <;> (intro h; cases h)) (fun k z => by rcases z with z | z <;> rfl) (fun x => by kernel_rfl)
theorem wje : vad Try.prog 195 wgb :=
  vao G70_ok follows (Try.f195.body.getD .skip) Try.func195 (by kernel_rfl) fun p q => ⟨vu4, (n31n_p _ _).p.map _, by rw [waq]; kernel_rfl, vab (ids := [0]) (by kernel_rfl) (by kernel_rfl) ⟨wdy, trivial⟩⟩
def G71 : Glob := G70.add 195 wgb
theorem G71_ok : GlobOk Try.prog G71 := G70_ok.add ⟨Try.f195, Try.func195, by kernel_rfl, by kernel_rfl⟩ wje
def vq9 : q7T → List AV := fun x => [.lst tTxn x.1, .i x.2.1, .i x.2.2.1, .i x.2.2.2]
def vrm : q7T → St := fun x => []
def vtv : Nat → Option LoopSpec
  | 0 => some (lpS [0, 1, 4, 5] [] [.lst tTxn, .i, .i, .i] [] vjr (fun p q => (p.1, p.2.1, p.2.2.1, p.2.2.2.1)) (fun k => (Sum.elim (onE (exZ .ret vq9 vrm) k) (onE (exZ (.exit 0) vq9 vrm) k))))
  | 2000025 => some ⟨[0, 2, 4, 6, 8, 10, 13, 14], [], fun _ _ _ => none⟩
  | _ => none
theorem wdb : LpAt G71 ⟨0, 88, vtv⟩ Try.f138 0 :=
  vaw rfl (fun x => (n29n_bp0 x).p) vq9 vrm (Sum.elim ((exZ .ret vq9 vrm)) ((exZ (.exit 0) vq9 vrm))) (fun _ _ => ⟨rfl, rfl⟩) (fun z => by rcases z with z | z <;> (intro h; cases h)) (fun k z => by rcases z with z | z <;> rfl) (fun x => by kernel_rfl)
theorem wkx : vad Try.prog 138 wg0 :=
  vao G71_ok follows (Try.f138.body.getD .skip) Try.func138 (by kernel_rfl) fun p q => ⟨vtv, (n29n_p _ _).p.map _, by rw [v83]; kernel_rfl, vab (ids := [0]) (by kernel_rfl) (by kernel_rfl) ⟨wdb, trivial⟩⟩
def G72 : Glob := G71.add 138 wg0
theorem G72_ok : GlobOk Try.prog G72 := G71_ok.add ⟨Try.f138, Try.func138, by kernel_rfl, by kernel_rfl⟩ wkx
def v6p : Nat → Option LoopSpec
  | _ => none
theorem wks : vad Try.prog 137 wf8 :=
  vao G72_ok follows (Try.f137.body.getD .skip) Try.func137 (by kernel_rfl) fun p q => ⟨v6p, (n26n_p _ _).p.map _, by rw [wbe]; kernel_rfl, vab (ids := []) (by kernel_rfl) (by kernel_rfl) trivial⟩
def G73 : Glob := G72.add 137 wf8
theorem G73_ok : GlobOk Try.prog G73 := G72_ok.add ⟨Try.f137, Try.func137, by kernel_rfl, by kernel_rfl⟩ wks
def v62 : Nat → Option LoopSpec
  | _ => none
theorem wj3 : vad Try.prog 56 wfr :=
  vao G73_ok follows (Try.f56.body.getD .skip) Try.func56 (by kernel_rfl) fun p q => ⟨v62, (n27n_p _ _).p.map _, by rw [v7t]; kernel_rfl, vab (ids := []) (by kernel_rfl) (by kernel_rfl) trivial⟩
def G74 : Glob := G73.add 56 wfr
theorem G74_ok : GlobOk Try.prog G74 := G73_ok.add ⟨Try.f56, Try.func56, by kernel_rfl, by kernel_rfl⟩ wj3
def vfo : q19T → List AV := fun x => [.bool x.1, .bp 0 0, .i x.2.1]
def vgz : q19T → St := fun x => [.box [.own 1, .own 2, .own 3, .i x.2.2.1, .i x.2.2.2.1, .own 4], .arr tVersion x.2.2.2.2.1, .dep tTxn x.2.2.2.2.2.1 0, .dep tTxn x.2.2.2.2.2.2.1 0, .dep tTxn x.2.2.2.2.2.2.2 0]
def vgr : q28T → List AV := fun x => [.i x.1, .bp 0 0, .bp 1 0, .bool x.2.1, .bp 2 0, .i x.2.2.1, .bp 3 0]
def vgx : q28T → St := fun x => let xh := x.2.2.2.2.2.2.2.2; let xhh := xh.2.2.2.2.2.2.2.2; [.box [.lst tVersion x.2.2.2.1, .lst tTxn x.2.2.2.2.1, .lst tTxn x.2.2.2.2.2.1, .i x.2.2.2.2.2.2.1, .i x.2.2.2.2.2.2.2.1, .lst tTxn xh.1], .box [.str xh.2.1, .str xh.2.2.1, .bool xh.2.2.2.1], .box [.own 4, .own 5, .own 6, .i xh.2.2.2.2.1, .i xh.2.2.2.2.2.1, .own 7], .box [.own 8, .own 9, .own 10, .i xh.2.2.2.2.2.2.1, .i xh.2.2.2.2.2.2.2.1, .own 11], .arr tVersion xhh.1, .arr tTxn xhh.2.1, .arr tTxn xhh.2.2.1, .arr tTxn xhh.2.2.2.1, .arr tVersion xhh.2.2.2.2.1, .dep tTxn xhh.2.2.2.2.2.1 0, .dep tTxn xhh.2.2.2.2.2.2.1 0, .dep tTxn xhh.2.2.2.2.2.2.2 0]
def vjg : q18T → Out × List AV × St := fun z => (.ret, [.dead, .dead, .dead, .bool z.1, .dead, .dead, .bp 0 0], [.box [.own 1, .own 2, .own 3, .i z.2.1, .i z.2.2.1, .own 4], .arr tVersion z.2.2.2.1, .dep tTxn z.2.2.2.2.1 0, .dep tTxn z.2.2.2.2.2.1 0, .dep tTxn z.2.2.2.2.2.2 0])
def vfr : q29T → List AV := fun x => [.i x.1, .bp 0 0, .bp 1 0, .bool x.2.1, .bp 2 0, .i x.2.2.1, .bp 3 0, .bp 4 0, .i x.2.2.2.1]
def vg0 : q29T → St := fun x => let xh := x.2.2.2.2.2.2.2.2; let xhh := xh.2.2.2.2.2.2.2.2; let xhhh := xhh.2.2.2.2.2.2.2.2; [.box [.lst tVersion x.2.2.2.2.1, .lst tTxn x.2.2.2.2.2.1, .lst tTxn x.2.2.2.2.2.2.1, .i x.2.2.2.2.2.2.2.1, .i xh.1, .lst tTxn xh.2.1], .box [.str xh.2.2.1, .str xh.2.2.2.1, .bool xh.2.2.2.2.1], .box [.own 5, .own 6, .own 7, .i xh.2.2.2.2.2.1, .i xh.2.2.2.2.2.2.1, .own 8], .box [.own 9, .own 10, .own 11, .i xh.2.2.2.2.2.2.2.1, .i xhh.1, .own 12], .box [.own 13, .own 14, .own 15, .i xhh.2.1, .i xhh.2.2.1, .own 16], .arr tVersion xhh.2.2.2.1, .arr tTxn xhh.2.2.2.2.1, .arr tTxn xhh.2.2.2.2.2.1, .arr tTxn xhh.2.2.2.2.2.2.1, .arr tVersion xhh.2.2.2.2.2.2.2.1, .dep tTxn xhhh.1 0, .dep tTxn xhhh.2.1 0, .dep tTxn xhhh.2.2.1 0, .arr tVersion xhhh.2.2.2.1, .dep tTxn xhhh.2.2.2.2.1 0, .dep tTxn xhhh.2.2.2.2.2.1 0, .dep tTxn xhhh.2.2.2.2.2.2 0]
def vi1 : q28T → Out × List AV × St := fun z => let zh := z.2.2.2.2.2.2.2.2; let zhh := zh.2.2.2.2.2.2.2.2; (.ret, [.i z.1, .bp 0 0, .bp 1 0, .bool z.2.1, .bp 2 0, .i z.2.2.1, .dead, .bp 3 0, .dead], [.box [.lst tVersion z.2.2.2.1, .lst tTxn z.2.2.2.2.1, .lst tTxn z.2.2.2.2.2.1, .i z.2.2.2.2.2.2.1, .i z.2.2.2.2.2.2.2.1, .lst tTxn zh.1], .box [.str zh.2.1, .str zh.2.2.1, .bool zh.2.2.2.1], .box [.own 4, .own 5, .own 6, .i zh.2.2.2.2.1, .i zh.2.2.2.2.2.1, .own 7], .box [.own 8, .own 9, .own 10, .i zh.2.2.2.2.2.2.1, .i zh.2.2.2.2.2.2.2.1, .own 11], .arr tVersion zhh.1, .arr tTxn zhh.2.1, .arr tTxn zhh.2.2.1, .arr tTxn zhh.2.2.2.1, .arr tVersion zhh.2.2.2.2.1, .dep tTxn zhh.2.2.2.2.2.1 0, .dep tTxn zhh.2.2.2.2.2.2.1 0, .dep tTxn zhh.2.2.2.2.2.2.2 0])
def vim : q18T → Out × List AV × St := fun z => (.ret, [.dead, .dead, .dead, .bool z.1, .dead, .dead, .dead, .bp 0 0, .dead], [.box [.own 1, .own 2, .own 3, .i z.2.1, .i z.2.2.1, .own 4], .arr tVersion z.2.2.2.1, .dep tTxn z.2.2.2.2.1 0, .dep tTxn z.2.2.2.2.2.1 0, .dep tTxn z.2.2.2.2.2.2 0])
def vkz : Nat → Option LoopSpec
  | 5000030 => some (ctS [6, 11, 14] [] [.bool, .bp 0 0, .i] [.box [.own 1, .own 2, .own 3, .i, .i, .own 4], .arr tVersion, .dep tTxn 0, .dep tTxn 0, .dep tTxn 0] vcv (fun p q => (p.1, p.2.2.1, q.1.2.2.2.1, q.1.2.2.2.2.1, q.2.1, q.2.2.1, q.2.2.2.1, q.2.2.2.2.1)) (fun k => (onE (exZ .ret vfo vgz) k)))
  | 5000019 => some (ctS [1, 3, 5, 6, 8, 9, 11] [] [.i, .bp 0 0, .bp 1 0, .bool, .bp 2 0, .i, .bp 3 0] [.box [.lst tVersion, .lst tTxn, .lst tTxn, .i, .i, .lst tTxn], .box [.str, .str, .bool], .box [.own 4, .own 5, .own 6, .i, .i, .own 7], .box [.own 8, .own 9, .own 10, .i, .i, .own 11], .arr tVersion, .arr tTxn, .arr tTxn, .arr tTxn, .arr tVersion, .dep tTxn 0, .dep tTxn 0, .dep tTxn 0] vcy (fun p q => (p.1, p.2.2.2.1, p.2.2.2.2.2.1, q.1.1, q.1.2.1, q.1.2.2.1, q.1.2.2.2.1, q.1.2.2.2.2.1, q.1.2.2.2.2.2.1, q.2.1.1, q.2.1.2.1, q.2.1.2.2.1, q.2.2.1.2.2.2.1, q.2.2.1.2.2.2.2.1, q.2.2.2.1.2.2.2.1, q.2.2.2.1.2.2.2.2.1, q.2.2.2.2.1, q.2.2.2.2.2.1, q.2.2.2.2.2.2.1, q.2.2.2.2.2.2.2.1, q.2.2.2.2.2.2.2.2.1, q.2.2.2.2.2.2.2.2.2.1, q.2.2.2.2.2.2.2.2.2.2.1, q.2.2.2.2.2.2.2.2.2.2.2.1)) (fun k => (Sum.elim (onE (exZ .ret vgr vgx) k) (onE vjg k))))
  | 5000013 => some (ctS [1, 3, 5, 6, 8, 9, 10, 11, 12] [] [.i, .bp 0 0, .bp 1 0, .bool, .bp 2 0, .i, .bp 3 0, .bp 4 0, .i] [.box [.lst tVersion, .lst tTxn, .lst tTxn, .i, .i, .lst tTxn], .box [.str, .str, .bool], .box [.own 5, .own 6, .own 7, .i, .i, .own 8], .box [.own 9, .own 10, .own 11, .i, .i, .own 12], .box [.own 13, .own 14, .own 15, .i, .i, .own 16], .arr tVersion, .arr tTxn, .arr tTxn, .arr tTxn, .arr tVersion, .dep tTxn 0, .dep tTxn 0, .dep tTxn 0, .arr tVersion, .dep tTxn 0, .dep tTxn 0, .dep tTxn 0] vcp (fun p q => (p.1, p.2.2.2.1, p.2.2.2.2.2.1, p.2.2.2.2.2.2.2.2.1, q.1.1, q.1.2.1, q.1.2.2.1, q.1.2.2.2.1, q.1.2.2.2.2.1, q.1.2.2.2.2.2.1, q.2.1.1, q.2.1.2.1, q.2.1.2.2.1, q.2.2.1.2.2.2.1, q.2.2.1.2.2.2.2.1, q.2.2.2.1.2.2.2.1, q.2.2.2.1.2.2.2.2.1, q.2.2.2.2.1.2.2.2.1, q.2.2.2.2.1.2.2.2.2.1, q.2.2.2.2.2.1, q.2.2.2.2.2.2.1, q.2.2.2.2.2.2.2.1, q.2.2.2.2.2.2.2.2.1, q.2.2.2.2.2.2.2.2.2.1, q.2.2.2.2.2.2.2.2.2.2.1, q.2.2.2.2.2.2.2.2.2.2.2.1, q.2.2.2.2.2.2.2.2.2.2.2.2.1, q.2.2.2.2.2.2.2.2.2.2.2.2.2.1, q.2.2.2.2.2.2.2.2.2.2.2.2.2.2.1, q.2.2.2.2.2.2.2.2.2.2.2.2.2.2.2.1, q.2.2.2.2.2.2.2.2.2.2.2.2.2.2.2.2.1)) (fun k => (Sum.elim (onE (exZ .ret vfr vg0) k) (Sum.elim (onE vi1 k) (onE vim k)))))
  | _ => none
theorem vs6 : CtAt G74 ⟨0, 114, vkz⟩ Try.f6 5000030 :=
  vdt rfl (fun x => (n15n_jp5000030 x).p) vfo vgz (exZ .ret vfo vgz) (fun _ _ => ⟨rfl, rfl⟩) (fun _ _ => rfl) (fun x => by kernel_rfl)
theorem vs4 : CtAt G74 ⟨0, 114, vkz⟩ Try.f6 5000019 :=
  vdt rfl (fun x => (n15n_jp5000019 x).p) vgr vgx (Sum.elim ((exZ .ret vgr vgx)) (vjg)) (fun _ _ => ⟨rfl, rfl⟩) (fun k z => by rcases z with z | z <;> rfl) (fun x => by kernel_rfl)
theorem vti : CtAt G74 ⟨0, 114, vkz⟩ Try.f6 5000013 :=
  vdt rfl (fun x => (n15n_jp5000013 x).p) vfr vg0 (Sum.elim ((exZ .ret vfr vg0)) (Sum.elim (vi1) (vim))) (fun _ _ => ⟨rfl, rfl⟩) (fun k z => by rcases z with z | z | z <;> rfl) (fun x => by kernel_rfl)
theorem wg9 : vad Try.prog 6 v8f :=
  vao G74_ok follows (Try.f6.body.getD .skip) Try.func6 (by kernel_rfl) fun p q => ⟨vkz, (n15n_p _ _ _).p.map _, by rw [wa2]; kernel_rfl, vab (ids := [5000030, 5000019, 5000013]) (by kernel_rfl) (by kernel_rfl) ⟨vs6, ⟨vs4, ⟨vti, trivial⟩⟩⟩⟩
def G75 : Glob := G74.add 6 v8f
theorem wlz : GlobOk Try.prog G75 := G74_ok.add ⟨Try.f6, Try.func6, by kernel_rfl, by kernel_rfl⟩ wg9
end
end Go.VE
