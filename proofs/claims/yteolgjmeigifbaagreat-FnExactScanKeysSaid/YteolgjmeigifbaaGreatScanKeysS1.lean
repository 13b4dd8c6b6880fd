/- Each function told by its native program; written by gen.py. -/
import Derived.Test.YteolgjmeigifbaaGreatScanKeysS0
namespace Go.VE
open Go.Proofs
noncomputable section
set_option linter.unusedVariables false
set_option linter.unusedSimpArgs false
set_option maxRecDepth 100000
def v95 : Nat → Option LoopSpec
  | _ => none
theorem wtm : vad Tryz.prog 186 wl8 :=
  var G0_ok follows (Tryz.f186.body.getD .skip) Tryz.func186 (by kernel_rfl) fun p q => ⟨v95, (n57n_p _ _).p.map _, by rw [wcl]; kernel_rfl, vac (ids := []) (by kernel_rfl) (by kernel_rfl) trivial⟩
def G1 : Glob := G0.add 186 wl8
theorem G1_ok : GlobOk Tryz.prog G1 := G0_ok.add ⟨Tryz.f186, Tryz.func186, by kernel_rfl, by kernel_rfl⟩ wtm
def vth : q21T → List AV := fun x => [.lst tVersion x.1, .i x.2.1, .i x.2.2.1, .i x.2.2.2]
def vsu : q21T → St := fun x => []
def vw8 : Nat → Option LoopSpec
  | 0 => some (lpS [0, 1, 4, 5] [] [.lst tVersion, .i, .i, .i] [] vkh (fun p q => (p.1, p.2.1, p.2.2.1, p.2.2.2.1)) (fun k => (Sum.elim (onE (exZ .ret vth vsu) k) (onE (exZ (.exit 0) vth vsu) k))))
  | _ => none
theorem wk4 : LpAt G1 ⟨0, 27, vw8⟩ Tryz.f96 0 :=
  vao rfl (fun x => (n58n_bp0 x).p) vth vsu (Sum.elim ((exZ .ret vth vsu)) ((exZ (.exit 0) vth vsu))) (fun _ _ => ⟨rfl, rfl⟩) (fun z => by rcases z with z | z <;> (intro h; cases h)) (fun k z => by rcases z with z | z <;> rfl) (fun x => by kernel_rfl)
theorem wq2 : vad Tryz.prog 96 wmh :=
  var G1_ok follows (Tryz.f96.body.getD .skip) Tryz.func96 (by kernel_rfl) fun p q => ⟨vw8, (n58n_p _ _).p.map _, by rw [wea]; kernel_rfl, vac (ids := [0]) (by kernel_rfl) (by kernel_rfl) ⟨wk4, trivial⟩⟩
def G2 : Glob := G1.add 96 wmh
theorem G2_ok : GlobOk Tryz.prog G2 := G1_ok.add ⟨Tryz.f96, Tryz.func96, by kernel_rfl, by kernel_rfl⟩ wq2
def wbe : Nat → Option LoopSpec
  | _ => none
theorem wq1 : vad Tryz.prog 15 wmm :=
  var G2_ok follows (Tryz.f15.body.getD .skip) Tryz.func15 (by kernel_rfl) fun p q => ⟨wbe, (n53n_p _ _).p.map _, by rw [whb]; kernel_rfl, vac (ids := []) (by kernel_rfl) (by kernel_rfl) trivial⟩
def G3 : Glob := G2.add 15 wmm
theorem G3_ok : GlobOk Tryz.prog G3 := G2_ok.add ⟨Tryz.f15, Tryz.func15, by kernel_rfl, by kernel_rfl⟩ wq1
def vsx : q3T → List AV := fun x => [.lst tRange x.1, .i x.2.1, .i x.2.2.1, .i x.2.2.2]
def vsw : q3T → St := fun x => []
def vvq : Nat → Option LoopSpec
  | 0 => some (lpS [0, 1, 4, 5] [] [.lst tRange, .i, .i, .i] [] vky (fun p q => (p.1, p.2.1, p.2.2.1, p.2.2.2.1)) (fun k => (Sum.elim (onE (exZ .ret vsx vsw) k) (onE (exZ (.exit 0) vsx vsw) k))))
  | _ => none
theorem wkz : LpAt G3 ⟨0, 27, vvq⟩ Tryz.f187 0 :=
  vao rfl (fun x => (n54n_bp0 x).p) vsx vsw (Sum.elim ((exZ .ret vsx vsw)) ((exZ (.exit 0) vsx vsw))) (fun _ _ => ⟨rfl, rfl⟩) (fun z => by rcases z with z | z <;> (intro h; cases h)) (fun k z => by rcases z with z | z <;> rfl) (fun x => by kernel_rfl)
theorem wsz : vad Tryz.prog 187 wmw :=
  var G3_ok follows (Tryz.f187.body.getD .skip) Tryz.func187 (by kernel_rfl) fun p q => ⟨vvq, (n54n_p _ _).p.map _, by rw [wcg]; kernel_rfl, vac (ids := [0]) (by kernel_rfl) (by kernel_rfl) ⟨wkz, trivial⟩⟩
def G4 : Glob := G3.add 187 wmw
theorem G4_ok : GlobOk Tryz.prog G4 := G3_ok.add ⟨Tryz.f187, Tryz.func187, by kernel_rfl, by kernel_rfl⟩ wsz
def wbj : Nat → Option LoopSpec
  | _ => none
theorem wsl : vad Tryz.prog 239 wl6 :=
  var G4_ok follows (Tryz.f239.body.getD .skip) Tryz.func239 (by kernel_rfl) fun p q => ⟨wbj, (n59n_p _ _).p.map _, by rw [wes]; kernel_rfl, vac (ids := []) (by kernel_rfl) (by kernel_rfl) trivial⟩
def G5 : Glob := G4.add 239 wl6
theorem G5_ok : GlobOk Tryz.prog G5 := G4_ok.add ⟨Tryz.f239, Tryz.func239, by kernel_rfl, by kernel_rfl⟩ wsl
def vs3 : q26T → List AV := fun x => [.lst tWrite x.1, .i x.2.1, .i x.2.2.1, .i x.2.2.2]
def vte : q26T → St := fun x => []
def vwe : Nat → Option LoopSpec
  | 0 => some (lpS [0, 1, 4, 5] [] [.lst tWrite, .i, .i, .i] [] vld (fun p q => (p.1, p.2.1, p.2.2.1, p.2.2.2.1)) (fun k => (Sum.elim (onE (exZ .ret vs3 vte) k) (onE (exZ (.exit 0) vs3 vte) k))))
  | _ => none
theorem wlc : LpAt G5 ⟨0, 27, vwe⟩ Tryz.f188 0 :=
  vao rfl (fun x => (n60n_bp0 x).p) vs3 vte (Sum.elim ((exZ .ret vs3 vte)) ((exZ (.exit 0) vs3 vte))) (fun _ _ => ⟨rfl, rfl⟩) (fun z => by rcases z with z | z <;> (intro h; cases h)) (fun k z => by rcases z with z | z <;> rfl) (fun x => by kernel_rfl)
theorem wtu : vad Tryz.prog 188 wnc :=
  var G5_ok follows (Tryz.f188.body.getD .skip) Tryz.func188 (by kernel_rfl) fun p q => ⟨vwe, (n60n_p _ _).p.map _, by rw [wfl]; kernel_rfl, vac (ids := [0]) (by kernel_rfl) (by kernel_rfl) ⟨wlc, trivial⟩⟩
def G6 : Glob := G5.add 188 wnc
theorem G6_ok : GlobOk Tryz.prog G6 := G5_ok.add ⟨Tryz.f188, Tryz.func188, by kernel_rfl, by kernel_rfl⟩ wtu
def wag : Nat → Option LoopSpec
  | _ => none
theorem wre : vad Tryz.prog 97 wnb :=
  var G6_ok follows (Tryz.f97.body.getD .skip) Tryz.func97 (by kernel_rfl) fun p q => ⟨wag, (n55n_p _ _).p.map _, by rw [whg]; kernel_rfl, vac (ids := []) (by kernel_rfl) (by kernel_rfl) trivial⟩
def G7 : Glob := G6.add 97 wnb
theorem G7_ok : GlobOk Tryz.prog G7 := G6_ok.add ⟨Tryz.f97, Tryz.func97, by kernel_rfl, by kernel_rfl⟩ wre
def vt2 : q8T → List AV := fun x => [.lst tTxn x.1, .i x.2.1, .i x.2.2.1, .i x.2.2.2]
def vsp : q8T → St := fun x => []
def vxz : Nat → Option LoopSpec
  | 0 => some (lpS [0, 1, 4, 5] [] [.lst tTxn, .i, .i, .i] [] vkk (fun p q => (p.1, p.2.1, p.2.2.1, p.2.2.2.1)) (fun k => (Sum.elim (onE (exZ .ret vt2 vsp) k) (onE (exZ (.exit 0) vt2 vsp) k))))
  | _ => none
theorem wlr : LpAt G7 ⟨0, 27, vxz⟩ Tryz.f81 0 :=
  vao rfl (fun x => (n56n_bp0 x).p) vt2 vsp (Sum.elim ((exZ .ret vt2 vsp)) ((exZ (.exit 0) vt2 vsp))) (fun _ _ => ⟨rfl, rfl⟩) (fun z => by rcases z with z | z <;> (intro h; cases h)) (fun k z => by rcases z with z | z <;> rfl) (fun x => by kernel_rfl)
theorem wrw : vad Tryz.prog 81 wok :=
  var G7_ok follows (Tryz.f81.body.getD .skip) Tryz.func81 (by kernel_rfl) fun p q => ⟨vxz, (n56n_p _ _).p.map _, by rw [wgb]; kernel_rfl, vac (ids := [0]) (by kernel_rfl) (by kernel_rfl) ⟨wlr, trivial⟩⟩
def G8 : Glob := G7.add 81 wok
theorem G8_ok : GlobOk Tryz.prog G8 := G7_ok.add ⟨Tryz.f81, Tryz.func81, by kernel_rfl, by kernel_rfl⟩ wrw
def wai : Nat → Option LoopSpec
  | _ => none
theorem wrq : vad Tryz.prog 26 wnm :=
  var G8_ok follows (Tryz.f26.body.getD .skip) Tryz.func26 (by kernel_rfl) fun p q => ⟨wai, (n51n_p _ _).p.map _, by rw [wcc]; kernel_rfl, vac (ids := []) (by kernel_rfl) (by kernel_rfl) trivial⟩
def G9 : Glob := G8.add 26 wnm
theorem G9_ok : GlobOk Tryz.prog G9 := G8_ok.add ⟨Tryz.f26, Tryz.func26, by kernel_rfl, by kernel_rfl⟩ wrq
def wa1 : Nat → Option LoopSpec
  | _ => none
theorem wss : vad Tryz.prog 14 wn3 :=
  var G9_ok follows (Tryz.f14.body.getD .skip) Tryz.func14 (by kernel_rfl) fun p q => ⟨wa1, (n52n_p _ _).p.map _, by rw [wdp]; kernel_rfl, vac (ids := []) (by kernel_rfl) (by kernel_rfl) trivial⟩
def G10 : Glob := G9.add 14 wn3
theorem G10_ok : GlobOk Tryz.prog G10 := G9_ok.add ⟨Tryz.f14, Tryz.func14, by kernel_rfl, by kernel_rfl⟩ wss
def wad : Nat → Option LoopSpec
  | _ => none
theorem wtx : vad Tryz.prog 191 wnh :=
  var G10_ok follows (Tryz.f191.body.getD .skip) Tryz.func191 (by kernel_rfl) fun p q => ⟨wad, (n67n_p _).p.map _, by rw [wgy]; kernel_rfl, vac (ids := []) (by kernel_rfl) (by kernel_rfl) trivial⟩
def G11 : Glob := G10.add 191 wnh
theorem G11_ok : GlobOk Tryz.prog G11 := G10_ok.add ⟨Tryz.f191, Tryz.func191, by kernel_rfl, by kernel_rfl⟩ wtx
def v4v : q14T → List AV := fun x => [.lst tVersion x.1, .own 0, .i x.2.1]
def v4f : q14T → St := fun x => [.arr tVersion x.2.2]
def vxl : Nat → Option LoopSpec
  | 0 => some (lpS [0, 3, 4] [] [.lst tVersion, .own 0, .i] [.arr tVersion] vlp (fun p q => (p.1, p.2.2.1, q.1)) (fun k => (onE (exZ (.exit 0) v4v v4f) k)))
  | _ => none
theorem wl2 : LpAt G11 ⟨0, 23, vxl⟩ Tryz.f101 0 :=
  vao rfl (fun x => (n68n_bp0 x).p) v4v v4f (exZ (.exit 0) v4v v4f) (fun _ _ => ⟨rfl, rfl⟩) (fun z => by (intro h; cases h)) (fun _ _ => rfl) (fun x => by kernel_rfl)
theorem wrt : vad Tryz.prog 101 wmu :=
  var G11_ok follows (Tryz.f101.body.getD .skip) Tryz.func101 (by kernel_rfl) fun p q => ⟨vxl, (n68n_p _).p.map _, by rw [wdf]; kernel_rfl, vac (ids := [0]) (by kernel_rfl) (by kernel_rfl) ⟨wl2, trivial⟩⟩
def G12 : Glob := G11.add 101 wmu
theorem G12_ok : GlobOk Tryz.prog G12 := G11_ok.add ⟨Tryz.f101, Tryz.func101, by kernel_rfl, by kernel_rfl⟩ wrt
def wae : Nat → Option LoopSpec
  | _ => none
theorem wsg : vad Tryz.prog 18 wnf :=
  var G12_ok follows (Tryz.f18.body.getD .skip) Tryz.func18 (by kernel_rfl) fun p q => ⟨wae, (n63n_p _).p.map _, by rw [wdc]; kernel_rfl, vac (ids := []) (by kernel_rfl) (by kernel_rfl) trivial⟩
def G13 : Glob := G12.add 18 wnf
theorem G13_ok : GlobOk Tryz.prog G13 := G12_ok.add ⟨Tryz.f18, Tryz.func18, by kernel_rfl, by kernel_rfl⟩ wsg
def v4w : q1T → List AV := fun x => [.lst tRange x.1, .own 0, .i x.2.1]
def v47 : q1T → St := fun x => [.arr tRange x.2.2]
def vxo : Nat → Option LoopSpec
  | 0 => some (lpS [0, 3, 4] [] [.lst tRange, .own 0, .i] [.arr tRange] vji (fun p q => (p.1, p.2.2.1, q.1)) (fun k => (onE (exZ (.exit 0) v4w v47) k)))
  | _ => none
theorem wj1 : LpAt G13 ⟨0, 23, vxo⟩ Tryz.f192 0 :=
  vao rfl (fun x => (n64n_bp0 x).p) v4w v47 (exZ (.exit 0) v4w v47) (fun _ _ => ⟨rfl, rfl⟩) (fun z => by (intro h; cases h)) (fun _ _ => rfl) (fun x => by kernel_rfl)
theorem ws6 : vad Tryz.prog 192 woj :=
  var G13_ok follows (Tryz.f192.body.getD .skip) Tryz.func192 (by kernel_rfl) fun p q => ⟨vxo, (n64n_p _).p.map _, by rw [wcq]; kernel_rfl, vac (ids := [0]) (by kernel_rfl) (by kernel_rfl) ⟨wj1, trivial⟩⟩
def G14 : Glob := G13.add 192 woj
theorem G14_ok : GlobOk Tryz.prog G14 := G13_ok.add ⟨Tryz.f192, Tryz.func192, by kernel_rfl, by kernel_rfl⟩ ws6
def wb9 : Nat → Option LoopSpec
  | _ => none
theorem wsb : vad Tryz.prog 240 wmb :=
  var G14_ok follows (Tryz.f240.body.getD .skip) Tryz.func240 (by kernel_rfl) fun p q => ⟨wb9, (n69n_p _).p.map _, by rw [wc2]; kernel_rfl, vac (ids := []) (by kernel_rfl) (by kernel_rfl) trivial⟩
def G15 : Glob := G14.add 240 wmb
theorem G15_ok : GlobOk Tryz.prog G15 := G14_ok.add ⟨Tryz.f240, Tryz.func240, by kernel_rfl, by kernel_rfl⟩ wsb
def v6c : q24T → List AV := fun x => [.lst tWrite x.1, .own 0, .i x.2.1]
def v6a : q24T → St := fun x => [.arr tWrite x.2.2]
def vvm : Nat → Option LoopSpec
  | 0 => some (lpS [0, 3, 4] [] [.lst tWrite, .own 0, .i] [.arr tWrite] vli (fun p q => (p.1, p.2.2.1, q.1)) (fun k => (onE (exZ (.exit 0) v6c v6a) k)))
  | _ => none
theorem wka : LpAt G15 ⟨0, 23, vvm⟩ Tryz.f193 0 :=
  vao rfl (fun x => (n70n_bp0 x).p) v6c v6a (exZ (.exit 0) v6c v6a) (fun _ _ => ⟨rfl, rfl⟩) (fun z => by (intro h; cases h)) (fun _ _ => rfl) (fun x => by kernel_rfl)
theorem wrg : vad Tryz.prog 193 wng :=
  var G15_ok follows (Tryz.f193.body.getD .skip) Tryz.func193 (by kernel_rfl) fun p q => ⟨vvm, (n70n_p _).p.map _, by rw [wgo]; kernel_rfl, vac (ids := [0]) (by kernel_rfl) (by kernel_rfl) ⟨wka, trivial⟩⟩
def G16 : Glob := G15.add 193 wng
theorem G16_ok : GlobOk Tryz.prog G16 := G15_ok.add ⟨Tryz.f193, Tryz.func193, by kernel_rfl, by kernel_rfl⟩ wrg
def wbu : Nat → Option LoopSpec
  | _ => none
theorem wqk : vad Tryz.prog 102 wmk :=
  var G16_ok follows (Tryz.f102.body.getD .skip) Tryz.func102 (by kernel_rfl) fun p q => ⟨wbu, (n65n_p _).p.map _, by rw [wgd]; kernel_rfl, vac (ids := []) (by kernel_rfl) (by kernel_rfl) trivial⟩
def G17 : Glob := G16.add 102 wmk
theorem G17_ok : GlobOk Tryz.prog G17 := G16_ok.add ⟨Tryz.f102, Tryz.func102, by kernel_rfl, by kernel_rfl⟩ wqk
def v3k : q5T → List AV := fun x => [.lst tTxn x.1, .own 0, .i x.2.1]
def v3l : q5T → St := fun x => [.dep tTxn x.2.2 0]
def vvn : Nat → Option LoopSpec
  | 0 => some (lpS [0, 3, 4] [] [.lst tTxn, .own 0, .i] [.dep tTxn 0] vkp (fun p q => (p.1, p.2.2.1, q.1)) (fun k => (onE (exZ (.exit 0) v3k v3l) k)))
  | _ => none
theorem wh0 : LpAt G17 ⟨0, 23, vvn⟩ Tryz.f87 0 :=
  vao rfl (fun x => (n66n_bp0 x).p) v3k v3l (exZ (.exit 0) v3k v3l) (fun _ _ => ⟨rfl, rfl⟩) (fun z => by (intro h; cases h)) (fun _ _ => rfl) (fun x => by kernel_rfl)
theorem wql : vad Tryz.prog 87 wn8 :=
  var G17_ok follows (Tryz.f87.body.getD .skip) Tryz.func87 (by kernel_rfl) fun p q => ⟨vvn, (n66n_p _).p.map _, by rw [wcy]; kernel_rfl, vac (ids := [0]) (by kernel_rfl) (by kernel_rfl) ⟨wh0, trivial⟩⟩
def G18 : Glob := G17.add 87 wn8
theorem G18_ok : GlobOk Tryz.prog G18 := G17_ok.add ⟨Tryz.f87, Tryz.func87, by kernel_rfl, by kernel_rfl⟩ wql
def waa : Nat → Option LoopSpec
  | _ => none
theorem wq0 : vad Tryz.prog 29 wnu :=
  var G18_ok follows (Tryz.f29.body.getD .skip) Tryz.func29 (by kernel_rfl) fun p q => ⟨waa, (n61n_p _).p.map _, by rw [wdm]; kernel_rfl, vac (ids := []) (by kernel_rfl) (by kernel_rfl) trivial⟩
def G19 : Glob := G18.add 29 wnu
theorem G19_ok : GlobOk Tryz.prog G19 := G18_ok.add ⟨Tryz.f29, Tryz.func29, by kernel_rfl, by kernel_rfl⟩ wq0
def wa9 : Nat → Option LoopSpec
  | _ => none
theorem wte : vad Tryz.prog 17 wof :=
  var G19_ok follows (Tryz.f17.body.getD .skip) Tryz.func17 (by kernel_rfl) fun p q => ⟨wa9, (n62n_p _).p.map _, by rw [wep]; kernel_rfl, vac (ids := []) (by kernel_rfl) (by kernel_rfl) trivial⟩
def G20 : Glob := G19.add 17 wof
theorem G20_ok : GlobOk Tryz.prog G20 := G19_ok.add ⟨Tryz.f17, Tryz.func17, by kernel_rfl, by kernel_rfl⟩ wte
def wb7 : Nat → Option LoopSpec
  | _ => none
theorem wse : vad Tryz.prog 121 wmt :=
  var G20_ok.shallow follows (Tryz.f121.body.getD .skip) Tryz.func121 (by kernel_rfl) fun p q => ⟨wb7, (n92n_p _).p.map _, by rw [wcn]; kernel_rfl, vac (ids := []) (by kernel_rfl) (by kernel_rfl) trivial⟩
def G21 : Glob := G20.add 121 wmt
theorem G21_ok : GlobOk Tryz.prog G21 := G20_ok.add ⟨Tryz.f121, Tryz.func121, by kernel_rfl, by kernel_rfl⟩ wse
def v4p : q5T → List AV := fun x => [.lst tTxn x.1, .own 0, .i x.2.1]
def v5o : q5T → St := fun x => [.arr tTxn x.2.2]
def vvt : Nat → Option LoopSpec
  | 0 => some (lpS [0, 3, 4] [] [.lst tTxn, .own 0, .i] [.arr tTxn] vkx (fun p q => (p.1, p.2.2.1, q.1)) (fun k => (onE (exZ (.exit 0) v4p v5o) k)))
  | _ => none
theorem wjb : LpAt G21.shallow ⟨0, 21, vvt⟩ Tryz.f174 0 :=
  vao rfl (fun x => (n94n_bp0 x).p) v4p v5o (exZ (.exit 0) v4p v5o) (fun _ _ => ⟨rfl, rfl⟩) (fun z => by (intro h; cases h)) (fun _ _ => rfl) (fun x => by kernel_rfl)
theorem wqd : vad Tryz.prog 174 wme :=
  var G21_ok.shallow follows (Tryz.f174.body.getD .skip) Tryz.func174 (by kernel_rfl) fun p q => ⟨vvt, (n94n_p _).p.map _, by rw [wd3]; kernel_rfl, vac (ids := [0]) (by kernel_rfl) (by kernel_rfl) ⟨wjb, trivial⟩⟩
def G22 : Glob := G21.add 174 wme
theorem G22_ok : GlobOk Tryz.prog G22 := G21_ok.add ⟨Tryz.f174, Tryz.func174, by kernel_rfl, by kernel_rfl⟩ wqd
def wbz : Nat → Option LoopSpec
  | 1000001 => some ⟨[2], [], fun _ _ _ => none⟩
  | _ => none
theorem wtv : vad Tryz.prog 99 wn0 :=
  var G22_ok.shallow follows (Tryz.f99.body.getD .skip) Tryz.func99 (by kernel_rfl) fun p q => ⟨wbz, (n93n_p _).p.map _, by rw [wdr]; kernel_rfl, vac (ids := []) (by kernel_rfl) (by kernel_rfl) trivial⟩
def G23 : Glob := G22.add 99 wn0
theorem G23_ok : GlobOk Tryz.prog G23 := G22_ok.add ⟨Tryz.f99, Tryz.func99, by kernel_rfl, by kernel_rfl⟩ wtv
def wal : Nat → Option LoopSpec
  | 2000001 => some ⟨[0, 2, 6, 8, 5, 11, 12, 14], [], fun _ _ _ => none⟩
  | _ => none
theorem wsj : vad Tryz.prog 82 wmg :=
  var G23_ok.shallow follows (Tryz.f82.body.getD .skip) Tryz.func82 (by kernel_rfl) fun p q => ⟨wal, (n95n_p _).p.map _, by rw [wg2]; kernel_rfl, vac (ids := []) (by kernel_rfl) (by kernel_rfl) trivial⟩
def G24 : Glob := G23.add 82 wmg
theorem G24_ok : GlobOk Tryz.prog G24 := G23_ok.add ⟨Tryz.f82, Tryz.func82, by kernel_rfl, by kernel_rfl⟩ wsj
def vq7 : q46T → List AV := fun x => [.i x.1, .bp 0 0, .i x.2.1, .i x.2.2.1]
def vt7 : q46T → St := fun x => [.box [.lst tVersion x.2.2.2.1, .lst tTxn x.2.2.2.2.1, .lst tTxn x.2.2.2.2.2.1, .i x.2.2.2.2.2.2.1, .i x.2.2.2.2.2.2.2.1, .lst tTxn x.2.2.2.2.2.2.2.2]]
def vwa : Nat → Option LoopSpec
  | 0 => some (lpS [1, 2, 4, 5] [] [.i, .bp 0 0, .i, .i] [.box [.lst tVersion, .lst tTxn, .lst tTxn, .i, .i, .lst tTxn]] vll (fun p q => (p.1, p.2.2.1, p.2.2.2.1, q.1.1, q.1.2.1, q.1.2.2.1, q.1.2.2.2.1, q.1.2.2.2.2.1, q.1.2.2.2.2.2.1)) (fun k => (Sum.elim (onE (exZ .ret vq7 vt7) k) (onE (exZ (.exit 0) vq7 vt7) k))))
  | _ => none
theorem wht : LpAt G24.shallow ⟨0, 22, vwa⟩ Tryz.f83 0 :=
  vao rfl (fun x => (n79n_bp0 x).p) vq7 vt7 (Sum.elim ((exZ .ret vq7 vt7)) ((exZ (.exit 0) vq7 vt7))) (fun _ _ => ⟨rfl, rfl⟩) (fun z => by rcases z with z | z <;> (intro h; cases h)) (fun k z => by rcases z with z | z <;> rfl) (fun x => by kernel_rfl)
theorem wq6 : vad Tryz.prog 83 wnk :=
  var G24_ok.shallow follows (Tryz.f83.body.getD .skip) Tryz.func83 (by kernel_rfl) fun p q => ⟨vwa, (n79n_p _ _).p.map _, by rw [whi]; kernel_rfl, vac (ids := [0]) (by kernel_rfl) (by kernel_rfl) ⟨wht, trivial⟩⟩
def G25 : Glob := G24.add 83 wnk
theorem G25_ok : GlobOk Tryz.prog G25 := G24_ok.add ⟨Tryz.f83, Tryz.func83, by kernel_rfl, by kernel_rfl⟩ wq6
def wap : Nat → Option LoopSpec
  | _ => none
theorem wtw : vad Tryz.prog 135 wmz :=
  var G25_ok.shallow follows (Tryz.f135.body.getD .skip) Tryz.func135 (by kernel_rfl) fun p q => ⟨wap, (n89n_p _ _ _).p.map _, by rw [wdd]; kernel_rfl, vac (ids := []) (by kernel_rfl) (by kernel_rfl) trivial⟩
def G26 : Glob := G25.add 135 wmz
theorem G26_ok : GlobOk Tryz.prog G26 := G25_ok.add ⟨Tryz.f135, Tryz.func135, by kernel_rfl, by kernel_rfl⟩ wtw
def vtv : (ByteArray × Bool × Int) → List AV := fun x => [.str x.1, .bool x.2.1, .i x.2.2]
def vrv : (ByteArray × Bool × Int) → St := fun x => []
def vwt : Nat → Option LoopSpec
  | 0 => some (lpS [0, 2, 3] [] [.str, .bool, .i] [] vlk (fun p q => (p.1, p.2.1, p.2.2.1)) (fun k => (Sum.elim (onE (exZ .ret vtv vrv) k) (onE (exZ (.exit 0) vtv vrv) k))))
  | _ => none
theorem wja : LpAt G26.shallow ⟨0, 23, vwt⟩ Tryz.f175 0 :=
  vao rfl (fun x => (n78n_bp0 x).p) vtv vrv (Sum.elim ((exZ .ret vtv vrv)) ((exZ (.exit 0) vtv vrv))) (fun _ _ => ⟨rfl, rfl⟩) (fun z => by rcases z with z | z <;> (intro h; cases h)) (fun k z => by rcases z with z | z <;> rfl) (fun x => by kernel_rfl)
theorem wtk : vad Tryz.prog 175 wmr :=
  var G26_ok.shallow follows (Tryz.f175.body.getD .skip) Tryz.func175 (by kernel_rfl) fun p q => ⟨vwt, (n78n_p _).p.map _, by rw [whc]; kernel_rfl, vac (ids := [0]) (by kernel_rfl) (by kernel_rfl) ⟨wja, trivial⟩⟩
def G27 : Glob := G26.add 175 wmr
theorem G27_ok : GlobOk Tryz.prog G27 := G26_ok.add ⟨Tryz.f175, Tryz.func175, by kernel_rfl, by kernel_rfl⟩ wtk
def wb0 : Nat → Option LoopSpec
  | _ => none
theorem wrn : vad Tryz.prog 84 wne :=
  var G27_ok.shallow follows (Tryz.f84.body.getD .skip) Tryz.func84 (by kernel_rfl) fun p q => ⟨wb0, (n82n_p _).p.map _, by rw [wf3]; kernel_rfl, vac (ids := []) (by kernel_rfl) (by kernel_rfl) trivial⟩
def G28 : Glob := G27.add 84 wne
theorem G28_ok : GlobOk Tryz.prog G28 := G27_ok.add ⟨Tryz.f84, Tryz.func84, by kernel_rfl, by kernel_rfl⟩ wrn
def wb3 : Nat → Option LoopSpec
  | _ => none
theorem wsd : vad Tryz.prog 255 wl5 :=
  var G28_ok.shallow follows (Tryz.f255.body.getD .skip) Tryz.func255 (by kernel_rfl) fun p q => ⟨wb3, (n87n_p _).p.map _, by rw [wcm]; kernel_rfl, vac (ids := []) (by kernel_rfl) (by kernel_rfl) trivial⟩
def G29 : Glob := G28.add 255 wl5
theorem G29_ok : GlobOk Tryz.prog G29 := G28_ok.add ⟨Tryz.f255, Tryz.func255, by kernel_rfl, by kernel_rfl⟩ wsd
def vtn : ((List vaf) × Bool × Int) → List AV := fun x => [.lst tWrite x.1, .bool x.2.1, .i x.2.2]
def vr9 : ((List vaf) × Bool × Int) → St := fun x => []
def vw0 : Nat → Option LoopSpec
  | 0 => some (lpS [0, 2, 3] [] [.lst tWrite, .bool, .i] [] vjd (fun p q => (p.1, p.2.1, p.2.2.1)) (fun k => (Sum.elim (onE (exZ .ret vtn vr9) k) (onE (exZ (.exit 0) vtn vr9) k))))
  | 2000004 => some ⟨[0, 2, 4, 6, 9, 10, 12, 14, 16, 18, 20, 22, 24, 26, 28, 30, 32, 34, 36, 38, 40, 42, 44, 46], [], fun _ _ _ => none⟩
  | _ => none
theorem wic : LpAt G29.shallow ⟨0, 37, vw0⟩ Tryz.f216 0 :=
  vao rfl (fun x => (n88n_bp0 x).p) vtn vr9 (Sum.elim ((exZ .ret vtn vr9)) ((exZ (.exit 0) vtn vr9))) (fun _ _ => ⟨rfl, rfl⟩) (fun z => by rcases z with z | z <;> (intro h; cases h)) (fun k z => by rcases z with z | z <;> rfl) (fun x => by kernel_rfl)
theorem wsu : vad Tryz.prog 216 wn2 :=
  var G29_ok.shallow follows (Tryz.f216.body.getD .skip) Tryz.func216 (by kernel_rfl) fun p q => ⟨vw0, (n88n_p _).p.map _, by rw [wgq]; kernel_rfl, vac (ids := [0]) (by kernel_rfl) (by kernel_rfl) ⟨wic, trivial⟩⟩
def G30 : Glob := G29.add 216 wn2
theorem G30_ok : GlobOk Tryz.prog G30 := G29_ok.add ⟨Tryz.f216, Tryz.func216, by kernel_rfl, by kernel_rfl⟩ wsu
def vgw : q33T → List AV := fun x => [.bp 0 0, .bool x.1]
def vga : q33T → St := fun x => [.box [.i x.2.1, .i x.2.2.1, .i x.2.2.2.1, .i x.2.2.2.2.1, .lst tRange x.2.2.2.2.2.1, .lst tWrite x.2.2.2.2.2.2.1, .bool x.2.2.2.2.2.2.2.1, .str x.2.2.2.2.2.2.2.2]]
def vg4 : q33T → List AV := fun x => [.bp 0 0, .bool x.1]
def vgc : q33T → St := fun x => [.box [.i x.2.1, .i x.2.2.1, .i x.2.2.2.1, .i x.2.2.2.2.1, .lst tRange x.2.2.2.2.2.1, .lst tWrite x.2.2.2.2.2.2.1, .bool x.2.2.2.2.2.2.2.1, .str x.2.2.2.2.2.2.2.2]]
def vud : q36T → List AV := fun x => [.bp 0 0, .bool x.1, .i x.2.1]
def vso : q36T → St := fun x => let xh := x.2.2.2.2.2.2.2.2; [.box [.i x.2.2.1, .i x.2.2.2.1, .i x.2.2.2.2.1, .i x.2.2.2.2.2.1, .lst tRange x.2.2.2.2.2.2.1, .lst tWrite x.2.2.2.2.2.2.2.1, .bool xh.1, .str xh.2]]
def vgy : q33T → List AV := fun x => [.bp 0 0, .bool x.1]
def vg9 : q33T → St := fun x => [.box [.i x.2.1, .i x.2.2.1, .i x.2.2.2.1, .i x.2.2.2.2.1, .lst tRange x.2.2.2.2.2.1, .lst tWrite x.2.2.2.2.2.2.1, .bool x.2.2.2.2.2.2.2.1, .str x.2.2.2.2.2.2.2.2]]
def vhg : Nat → Option LoopSpec
  | 5000012 => some (ctS [1, 2] [] [.bp 0 0, .bool] [.box [.i, .i, .i, .i, .lst tRange, .lst tWrite, .bool, .str]] vbr (fun p q => (p.2.1, q.1.1, q.1.2.1, q.1.2.2.1, q.1.2.2.2.1, q.1.2.2.2.2.1, q.1.2.2.2.2.2.1, q.1.2.2.2.2.2.2.1, q.1.2.2.2.2.2.2.2.1)) (fun k => (onE (exZ .ret vgw vga) k)))
  | 5000010 => some (ctS [1, 2] [] [.bp 0 0, .bool] [.box [.i, .i, .i, .i, .lst tRange, .lst tWrite, .bool, .str]] vbp (fun p q => (p.2.1, q.1.1, q.1.2.1, q.1.2.2.1, q.1.2.2.2.1, q.1.2.2.2.2.1, q.1.2.2.2.2.2.1, q.1.2.2.2.2.2.2.1, q.1.2.2.2.2.2.2.2.1)) (fun k => (onE (exZ .ret vg4 vgc) k)))
  | 0 => some (lpS [1, 2, 3] [] [.bp 0 0, .bool, .i] [.box [.i, .i, .i, .i, .lst tRange, .lst tWrite, .bool, .str]] vjy (fun p q => (p.2.1, p.2.2.1, q.1.1, q.1.2.1, q.1.2.2.1, q.1.2.2.2.1, q.1.2.2.2.2.1, q.1.2.2.2.2.2.1, q.1.2.2.2.2.2.2.1, q.1.2.2.2.2.2.2.2.1)) (fun k => (Sum.elim (onE (exZ .ret vud vso) k) (onE (exZ (.exit 0) vud vso) k))))
  | 5000003 => some (ctS [1, 2] [] [.bp 0 0, .bool] [.box [.i, .i, .i, .i, .lst tRange, .lst tWrite, .bool, .str]] vcq (fun p q => (p.2.1, q.1.1, q.1.2.1, q.1.2.2.1, q.1.2.2.2.1, q.1.2.2.2.2.1, q.1.2.2.2.2.2.1, q.1.2.2.2.2.2.2.1, q.1.2.2.2.2.2.2.2.1)) (fun k => (onE (exZ .ret vgy vg9) k)))
  | _ => none
theorem vvf : CtAt G30.shallow ⟨0, 95, vhg⟩ Tryz.f136 5000012 :=
  vei rfl (fun x => (n86n_jp5000012 x).p) vgw vga (exZ .ret vgw vga) (fun _ _ => ⟨rfl, rfl⟩) (fun _ _ => rfl) (fun x => by kernel_rfl)
theorem vux : CtAt G30.shallow ⟨0, 95, vhg⟩ Tryz.f136 5000010 :=
  vei rfl (fun x => (n86n_jp5000010 x).p) vg4 vgc (exZ .ret vg4 vgc) (fun _ _ => ⟨rfl, rfl⟩) (fun _ _ => rfl) (fun x => by kernel_rfl)
theorem wjs : LpAt G30.shallow ⟨0, 95, vhg⟩ Tryz.f136 0 :=
  vao rfl (fun x => (n86n_bp0 x).p) vud vso (Sum.elim ((exZ .ret vud vso)) ((exZ (.exit 0) vud vso))) (fun _ _ => ⟨rfl, rfl⟩) (fun z => by rcases z with z | z <;> (intro h; cases h)) (fun k z => by rcases z with z | z <;> rfl) (fun x => by kernel_rfl)
theorem vu4 : CtAt G30.shallow ⟨0, 95, vhg⟩ Tryz.f136 5000003 :=
  vei rfl (fun x => (n86n_jp5000003 x).p) vgy vg9 (exZ .ret vgy vg9) (fun _ _ => ⟨rfl, rfl⟩) (fun _ _ => rfl) (fun x => by kernel_rfl)
theorem wr4 : vad Tryz.prog 136 wm7 :=
  var G30_ok.shallow follows (Tryz.f136.body.getD .skip) Tryz.func136 (by kernel_rfl) fun p q => ⟨vhg, (n86n_p _).p.map _, by rw [wc7]; kernel_rfl, vac (ids := [5000012, 5000010, 0, 5000003]) (by kernel_rfl) (by kernel_rfl) ⟨vvf, ⟨vux, ⟨wjs, ⟨vu4, trivial⟩⟩⟩⟩⟩
def G31 : Glob := G30.add 136 wm7
theorem G31_ok : GlobOk Tryz.prog G31 := G30_ok.add ⟨Tryz.f136, Tryz.func136, by kernel_rfl, by kernel_rfl⟩ wr4
def v3p : q34T → List AV := fun x => [.bp 0 0, .bp 1 0, .bp 2 0, .bool x.1, .bp 3 0, .i x.2.1]
def v5y : q34T → St := fun x => let xh := x.2.2.2.2.2.2.2.2; let xhh := xh.2.2.2.2.2.2.2.2; let xhhh := xhh.2.2.2.2.2.2.2.2; [.box [.i x.2.2.1, .i x.2.2.2.1, .i x.2.2.2.2.1, .i x.2.2.2.2.2.1, .lst tRange x.2.2.2.2.2.2.1, .lst tWrite x.2.2.2.2.2.2.2.1, .bool xh.1, .str xh.2.1], .box [.str xh.2.2.1, .str xh.2.2.2.1], .box [.i xh.2.2.2.2.1, .i xh.2.2.2.2.2.1, .i xh.2.2.2.2.2.2.1, .i xh.2.2.2.2.2.2.2.1, .own 4, .own 5, .bool xhh.1, .str xhh.2.1], .box [.i xhh.2.2.1, .i xhh.2.2.2.1, .i xhh.2.2.2.2.1, .i xhh.2.2.2.2.2.1, .own 6, .own 7, .bool xhh.2.2.2.2.2.2.1, .str xhh.2.2.2.2.2.2.2.1], .arr tRange xhhh.1, .arr tWrite xhhh.2.1, .arr tRange xhhh.2.2.1, .arr tWrite xhhh.2.2.2]
def v7h : q35T → Out × List AV × St := fun z => let zh := z.2.2.2.2.2.2.2.2; let zhh := zh.2.2.2.2.2.2.2.2; let zhhh := zhh.2.2.2.2.2.2.2.2; (.ret, [.bp 0 0, .bp 1 0, .bp 2 0, .bool z.1, .bp 3 0, .i z.2.1], [.box [.i z.2.2.1, .i z.2.2.2.1, .i z.2.2.2.2.1, .i z.2.2.2.2.2.1, .lst tRange z.2.2.2.2.2.2.1, .lst tWrite z.2.2.2.2.2.2.2.1, .bool zh.1, .str zh.2.1], .box [.str zh.2.2.1, .str zh.2.2.2.1], .box [.i zh.2.2.2.2.1, .i zh.2.2.2.2.2.1, .i zh.2.2.2.2.2.2.1, .i zh.2.2.2.2.2.2.2.1, .own 4, .own 5, .bool zhh.1, .str zhh.2.1], .box [.i zhh.2.2.1, .i zhh.2.2.2.1, .i zhh.2.2.2.2.1, .i zhh.2.2.2.2.2.1, .own 4, .own 5, .bool zhh.2.2.2.2.2.2.1, .str zhh.2.2.2.2.2.2.2.1], .arr tRange zhhh.1, .arr tWrite zhhh.2])
def vuj : q31T → List AV := fun x => [.bp 0 0, .bp 1 0, .bp 2 0, .bool x.1, .bp 3 0]
def vvd : q31T → St := fun x => let xh := x.2.2.2.2.2.2.2.2; let xhh := xh.2.2.2.2.2.2.2.2; let xhhh := xhh.2.2.2.2.2.2.2.2; [.box [.i x.2.1, .i x.2.2.1, .i x.2.2.2.1, .i x.2.2.2.2.1, .lst tRange x.2.2.2.2.2.1, .lst tWrite x.2.2.2.2.2.2.1, .bool x.2.2.2.2.2.2.2.1, .str xh.1], .box [.str xh.2.1, .str xh.2.2.1], .box [.i xh.2.2.2.1, .i xh.2.2.2.2.1, .i xh.2.2.2.2.2.1, .i xh.2.2.2.2.2.2.1, .own 4, .own 5, .bool xh.2.2.2.2.2.2.2.1, .str xhh.1], .box [.i xhh.2.1, .i xhh.2.2.1, .i xhh.2.2.2.1, .i xhh.2.2.2.2.1, .own 6, .own 7, .bool xhh.2.2.2.2.2.1, .str xhh.2.2.2.2.2.2.1], .arr tRange xhh.2.2.2.2.2.2.2.1, .arr tWrite xhhh.1, .arr tRange xhhh.2.1, .arr tWrite xhhh.2.2]
def vk0 : q32T → Out × List AV × St := fun z => let zh := z.2.2.2.2.2.2.2.2; let zhh := zh.2.2.2.2.2.2.2.2; (.ret, [.bp 0 0, .bp 1 0, .bp 2 0, .bool z.1, .bp 3 0], [.box [.i z.2.1, .i z.2.2.1, .i z.2.2.2.1, .i z.2.2.2.2.1, .lst tRange z.2.2.2.2.2.1, .lst tWrite z.2.2.2.2.2.2.1, .bool z.2.2.2.2.2.2.2.1, .str zh.1], .box [.str zh.2.1, .str zh.2.2.1], .box [.i zh.2.2.2.1, .i zh.2.2.2.2.1, .i zh.2.2.2.2.2.1, .i zh.2.2.2.2.2.2.1, .own 4, .own 5, .bool zh.2.2.2.2.2.2.2.1, .str zhh.1], .box [.i zhh.2.1, .i zhh.2.2.1, .i zhh.2.2.2.1, .i zhh.2.2.2.2.1, .own 4, .own 5, .bool zhh.2.2.2.2.2.1, .str zhh.2.2.2.2.2.2.1], .arr tRange zhh.2.2.2.2.2.2.2.1, .arr tWrite zhh.2.2.2.2.2.2.2.2])
def vpq : Nat → Option LoopSpec
  | 0 => some (lpS [2, 3, 4, 5, 6, 7] [none, none, none, none, none, none, none, none, none, none, none, none, none, none, none, none, none, none, none, none, some tRange, some tWrite] [.bp 0 0, .bp 1 0, .bp 2 0, .bool, .bp 3 0, .i] [.box [.i, .i, .i, .i, .lst tRange, .lst tWrite, .bool, .str], .box [.str, .str], .box [.i, .i, .i, .i, .own 4, .own 5, .bool, .str], .box [.i, .i, .i, .i, .own 6, .own 7, .bool, .str], .arr tRange, .arr tWrite, .arr tRange, .arr tWrite] vi9 (fun p q => (p.2.2.2.1, p.2.2.2.2.2.1, q.1.1, q.1.2.1, q.1.2.2.1, q.1.2.2.2.1, q.1.2.2.2.2.1, q.1.2.2.2.2.2.1, q.1.2.2.2.2.2.2.1, q.1.2.2.2.2.2.2.2.1, q.2.1.1, q.2.1.2.1, q.2.2.1.1, q.2.2.1.2.1, q.2.2.1.2.2.1, q.2.2.1.2.2.2.1, q.2.2.1.2.2.2.2.2.2.1, q.2.2.1.2.2.2.2.2.2.2.1, q.2.2.2.1.1, q.2.2.2.1.2.1, q.2.2.2.1.2.2.1, q.2.2.2.1.2.2.2.1, q.2.2.2.1.2.2.2.2.2.2.1, q.2.2.2.1.2.2.2.2.2.2.2.1, q.2.2.2.2.1, q.2.2.2.2.2.1, q.2.2.2.2.2.2.1, q.2.2.2.2.2.2.2.1)) (fun k => (Sum.elim (onE (exZ (.exit 0) v3p v5y) k) (onE v7h k))))
  | 5000004 => some (ctS [2, 3, 4, 5, 6] [none, none, none, none, none, none, none, none, none, none, none, none, none, none, none, none, none, none, none, some tRange, some tWrite] [.bp 0 0, .bp 1 0, .bp 2 0, .bool, .bp 3 0] [.box [.i, .i, .i, .i, .lst tRange, .lst tWrite, .bool, .str], .box [.str, .str], .box [.i, .i, .i, .i, .own 4, .own 5, .bool, .str], .box [.i, .i, .i, .i, .own 6, .own 7, .bool, .str], .arr tRange, .arr tWrite, .arr tRange, .arr tWrite] vcx (fun p q => (p.2.2.2.1, q.1.1, q.1.2.1, q.1.2.2.1, q.1.2.2.2.1, q.1.2.2.2.2.1, q.1.2.2.2.2.2.1, q.1.2.2.2.2.2.2.1, q.1.2.2.2.2.2.2.2.1, q.2.1.1, q.2.1.2.1, q.2.2.1.1, q.2.2.1.2.1, q.2.2.1.2.2.1, q.2.2.1.2.2.2.1, q.2.2.1.2.2.2.2.2.2.1, q.2.2.1.2.2.2.2.2.2.2.1, q.2.2.2.1.1, q.2.2.2.1.2.1, q.2.2.2.1.2.2.1, q.2.2.2.1.2.2.2.1, q.2.2.2.1.2.2.2.2.2.2.1, q.2.2.2.1.2.2.2.2.2.2.2.1, q.2.2.2.2.1, q.2.2.2.2.2.1, q.2.2.2.2.2.2.1, q.2.2.2.2.2.2.2.1)) (fun k => (onE vk0 k)))
  | _ => none
theorem wjt : LpAt G31.shallow ⟨0, 51, vpq⟩ Tryz.f85 0 :=
  vao rfl (fun x => (n83n_bp0 x).p) v3p v5y (Sum.elim ((exZ (.exit 0) v3p v5y)) (v7h)) (fun _ _ => ⟨rfl, rfl⟩) (fun z => by rcases z with z | z <;> (intro h; cases h)) (fun k z => by rcases z with z | z <;> rfl) (fun x => by kernel_rfl)
theorem vu8 : CtAt G31.shallow ⟨0, 51, vpq⟩ Tryz.f85 5000004 :=
  vei rfl (fun x => (n83n_jp5000004 x).p) vuj vvd vk0 (fun _ _ => ⟨rfl, rfl⟩) (fun _ _ => rfl) (fun x => by kernel_rfl)
theorem wsp : vad Tryz.prog 85 woe :=
  var G31_ok.shallow follows (Tryz.f85.body.getD .skip) Tryz.func85 (by kernel_rfl) fun p q => ⟨vpq, (n83n_p _ _).p.map _, by rw [wed]; kernel_rfl, vac (ids := [0, 5000004]) (by kernel_rfl) (by kernel_rfl) ⟨wjt, ⟨vu8, trivial⟩⟩⟩
def G32 : Glob := G31.add 85 woe
theorem G32_ok : GlobOk Tryz.prog G32 := G31_ok.add ⟨Tryz.f85, Tryz.func85, by kernel_rfl, by kernel_rfl⟩ wsp
def wba : Nat → Option LoopSpec
  | _ => none
theorem wqx : vad Tryz.prog 144 wmq :=
  var G32_ok.shallow follows (Tryz.f144.body.getD .skip) Tryz.func144 (by kernel_rfl) fun p q => ⟨wba, (n77n_p _ _).p.map _, by rw [wgx]; kernel_rfl, vac (ids := []) (by kernel_rfl) (by kernel_rfl) trivial⟩
def G33 : Glob := G32.add 144 wmq
theorem G33_ok : GlobOk Tryz.prog G33 := G32_ok.add ⟨Tryz.f144, Tryz.func144, by kernel_rfl, by kernel_rfl⟩ wqx
def v6d : q16T → List AV := fun x => [.lst tVersion x.1, .bp 0 0, .own 1, .i x.2.1, .str x.2.2.1, .own 2, .i x.2.2.2.1]
def v5x : q16T → St := fun x => [.box [.str x.2.2.2.2.1, .str x.2.2.2.2.2.1], .arr .str x.2.2.2.2.2.2.1, .arr .str x.2.2.2.2.2.2.2]
def v3w : q16T → List AV := fun x => [.lst tVersion x.1, .bp 0 0, .own 1, .i x.2.1, .str x.2.2.1, .own 2, .i x.2.2.2.1]
def v3x : q16T → St := fun x => [.box [.str x.2.2.2.2.1, .str x.2.2.2.2.2.1], .arr .str x.2.2.2.2.2.2.1, .arr .str x.2.2.2.2.2.2.2]
def v30 : q15T → List AV := fun x => [.lst tVersion x.1, .bp 0 0, .own 1, .i x.2.1]
def v43 : q15T → St := fun x => [.box [.str x.2.2.1, .str x.2.2.2.1], .arr .str x.2.2.2.2]
def vly : Nat → Option LoopSpec
  | 2 => some (lpS [0, 3, 5, 6, 7, 8, 9] [] [.lst tVersion, .bp 0 0, .own 1, .i, .str, .own 2, .i] [.box [.str, .str], .arr .str, .arr .str] vkw (fun p q => (p.1, p.2.2.2.1, p.2.2.2.2.1, p.2.2.2.2.2.2.1, q.1.1, q.1.2.1, q.2.1, q.2.2.1)) (fun k => (onE (exZ (.exit 2) v6d v5x) k)))
  | 4 => some (lpS [0, 3, 5, 6, 7, 8, 10] [] [.lst tVersion, .bp 0 0, .own 1, .i, .str, .own 2, .i] [.box [.str, .str], .arr .str, .arr .str] vi5 (fun p q => (p.1, p.2.2.2.1, p.2.2.2.2.1, p.2.2.2.2.2.2.1, q.1.1, q.1.2.1, q.2.1, q.2.2.1)) (fun k => (onE (exZ (.exit 4) v3w v3x) k)))
  | 0 => some (lpS [0, 3, 5, 6] [] [.lst tVersion, .bp 0 0, .own 1, .i] [.box [.str, .str], .arr .str] vjm (fun p q => (p.1, p.2.2.2.1, q.1.1, q.1.2.1, q.2.1)) (fun k => (onE (exZ (.exit 0) v30 v43) k)))
  | _ => none
theorem wh9 : LpAt G33.shallow ⟨0, 72, vly⟩ Tryz.f137 2 :=
  vao rfl (fun x => (n91n_bp2 x).p) v6d v5x (exZ (.exit 2) v6d v5x) (fun _ _ => ⟨rfl, rfl⟩) (fun z => by (intro h; cases h)) (fun _ _ => rfl) (fun x => by kernel_rfl)
theorem wjk : LpAt G33.shallow ⟨0, 72, vly⟩ Tryz.f137 4 :=
  vao rfl (fun x => (n91n_bp4 x).p) v3w v3x (exZ (.exit 4) v3w v3x) (fun _ _ => ⟨rfl, rfl⟩) (fun z => by (intro h; cases h)) (fun _ _ => rfl) (fun x => by kernel_rfl)
theorem wi5 : LpAt G33.shallow ⟨0, 72, vly⟩ Tryz.f137 0 :=
  vao rfl (fun x => (n91n_bp0 x).p) v30 v43 (exZ (.exit 0) v30 v43) (fun _ _ => ⟨rfl, rfl⟩) (fun z => by (intro h; cases h)) (fun _ _ => rfl) (fun x => by kernel_rfl)
theorem wta : vad Tryz.prog 137 wmd :=
  var G33_ok.shallow follows (Tryz.f137.body.getD .skip) Tryz.func137 (by kernel_rfl) fun p q => ⟨vly, (n91n_p _ _).p.map _, by rw [wg6]; kernel_rfl, vac (ids := [2, 4, 0]) (by kernel_rfl) (by kernel_rfl) ⟨wh9, ⟨wjk, ⟨wi5, trivial⟩⟩⟩⟩
def G34 : Glob := G33.add 137 wmd
theorem G34_ok : GlobOk Tryz.prog G34 := G33_ok.add ⟨Tryz.f137, Tryz.func137, by kernel_rfl, by kernel_rfl⟩ wta
def v45 : q13T → List AV := fun x => [.lst tVersion x.1, .str x.2.1, .i x.2.2.1, .i x.2.2.2.1, .i x.2.2.2.2]
def v5j : q13T → St := fun x => []
def vxq : Nat → Option LoopSpec
  | 0 => some (lpS [0, 1, 2, 7, 8] [] [.lst tVersion, .str, .i, .i, .i] [] vjr (fun p q => (p.1, p.2.1, p.2.2.1, p.2.2.2.1, p.2.2.2.2.1)) (fun k => (onE (exZ (.exit 0) v45 v5j) k)))
  | 2000005 => some ⟨[0, 2, 4, 6, 8, 10, 12, 14, 16, 18, 20, 22, 24, 26, 28, 30, 32, 34, 36, 38, 40, 42, 44, 46, 48, 50, 52, 54, 56, 58, 60, 62, 64], [], fun _ _ _ => none⟩
  | _ => none
theorem wk6 : LpAt G34.shallow ⟨0, 50, vxq⟩ Tryz.f143 0 :=
  vao rfl (fun x => (n90n_bp0 x).p) v45 v5j (exZ (.exit 0) v45 v5j) (fun _ _ => ⟨rfl, rfl⟩) (fun z => by (intro h; cases h)) (fun _ _ => rfl) (fun x => by kernel_rfl)
theorem wr0 : vad Tryz.prog 143 wn9 :=
  var G34_ok.shallow follows (Tryz.f143.body.getD .skip) Tryz.func143 (by kernel_rfl) fun p q => ⟨vxq, (n90n_p _ _ _).p.map _, by rw [weh]; kernel_rfl, vac (ids := [0]) (by kernel_rfl) (by kernel_rfl) ⟨wk6, trivial⟩⟩
def G35 : Glob := G34.add 143 wn9
theorem G35_ok : GlobOk Tryz.prog G35 := G34_ok.add ⟨Tryz.f143, Tryz.func143, by kernel_rfl, by kernel_rfl⟩ wr0
def wby : Nat → Option LoopSpec
  | _ => none
theorem wqv : vad Tryz.prog 64 woa :=
  var G35_ok.shallow follows (Tryz.f64.body.getD .skip) Tryz.func64 (by kernel_rfl) fun p q => ⟨wby, (n85n_p _ _ _).p.map _, by rw [wfu]; kernel_rfl, vac (ids := []) (by kernel_rfl) (by kernel_rfl) trivial⟩
def G36 : Glob := G35.add 64 woa
theorem G36_ok : GlobOk Tryz.prog G36 := G35_ok.add ⟨Tryz.f64, Tryz.func64, by kernel_rfl, by kernel_rfl⟩ wqv
def vt1 : q11T → List AV := fun x => [.lst tVersion x.1, .str x.2.1, .bp 0 0, .str x.2.2.1, .bool x.2.2.2.1, .i x.2.2.2.2.1]
def vq6 : q11T → St := fun x => let xh := x.2.2.2.2.2.2.2.2; [.box [.i x.2.2.2.2.2.1, .i x.2.2.2.2.2.2.1, .i x.2.2.2.2.2.2.2.1, .i xh.1, .lst tRange xh.2.1, .lst tWrite xh.2.2.1, .bool xh.2.2.2.1, .str xh.2.2.2.2]]
def vxj : Nat → Option LoopSpec
  | 0 => some (lpS [1, 2, 3, 6, 7, 8] [] [.lst tVersion, .str, .bp 0 0, .str, .bool, .i] [.box [.i, .i, .i, .i, .lst tRange, .lst tWrite, .bool, .str]] vj8 (fun p q => (p.1, p.2.1, p.2.2.2.1, p.2.2.2.2.1, p.2.2.2.2.2.1, q.1.1, q.1.2.1, q.1.2.2.1, q.1.2.2.2.1, q.1.2.2.2.2.1, q.1.2.2.2.2.2.1, q.1.2.2.2.2.2.2.1, q.1.2.2.2.2.2.2.2.1)) (fun k => (Sum.elim (onE (exZ .ret vt1 vq6) k) (onE (exZ (.exit 0) vt1 vq6) k))))
  | _ => none
theorem wi2 : LpAt G36.shallow ⟨0, 43, vxj⟩ Tryz.f176 0 :=
  vao rfl (fun x => (n80n_bp0 x).p) vt1 vq6 (Sum.elim ((exZ .ret vt1 vq6)) ((exZ (.exit 0) vt1 vq6))) (fun _ _ => ⟨rfl, rfl⟩) (fun z => by rcases z with z | z <;> (intro h; cases h)) (fun k z => by rcases z with z | z <;> rfl) (fun x => by kernel_rfl)
theorem wr9 : vad Tryz.prog 176 wnn :=
  var G36_ok.shallow follows (Tryz.f176.body.getD .skip) Tryz.func176 (by kernel_rfl) fun p q => ⟨vxj, (n80n_p _ _ _).p.map _, by rw [whh]; kernel_rfl, vac (ids := [0]) (by kernel_rfl) (by kernel_rfl) ⟨wi2, trivial⟩⟩
def G37 : Glob := G36.add 176 wnn
theorem G37_ok : GlobOk Tryz.prog G37 := G36_ok.add ⟨Tryz.f176, Tryz.func176, by kernel_rfl, by kernel_rfl⟩ wr9
def v4o : q19T → List AV := fun x => [.lst tVersion x.1, .bp 0 0, .bp 1 0, .own 2, .i x.2.1]
def v5l : q19T → St := fun x => let xh := x.2.2.2.2.2.2.2.2; [.box [.i x.2.2.1, .i x.2.2.2.1, .i x.2.2.2.2.1, .i x.2.2.2.2.2.1, .lst tRange x.2.2.2.2.2.2.1, .lst tWrite x.2.2.2.2.2.2.2.1, .bool xh.1, .str xh.2.1], .box [.str xh.2.2.1, .str xh.2.2.2.1], .arr tVersion xh.2.2.2.2]
def v54 : q18T → List AV := fun x => [.lst tVersion x.1, .bp 0 0, .own 1, .own 2, .i x.2.1]
def v33 : q18T → St := fun x => let xh := x.2.2.2.2.2.2.2.2; [.box [.i x.2.2.1, .i x.2.2.2.1, .i x.2.2.2.2.1, .i x.2.2.2.2.2.1, .lst tRange x.2.2.2.2.2.2.1, .lst tWrite x.2.2.2.2.2.2.2.1, .bool xh.1, .str xh.2.1], .arr tRange xh.2.2.1, .arr .str xh.2.2.2]
def vpm : Nat → Option LoopSpec
  | 0 => some (lpS [1, 3, 5, 7, 8] [] [.lst tVersion, .bp 0 0, .bp 1 0, .own 2, .i] [.box [.i, .i, .i, .i, .lst tRange, .lst tWrite, .bool, .str], .box [.str, .str], .arr tVersion] vjk (fun p q => (p.1, p.2.2.2.2.1, q.1.1, q.1.2.1, q.1.2.2.1, q.1.2.2.2.1, q.1.2.2.2.2.1, q.1.2.2.2.2.2.1, q.1.2.2.2.2.2.2.1, q.1.2.2.2.2.2.2.2.1, q.2.1.1, q.2.1.2.1, q.2.2.1)) (fun k => (onE (exZ (.exit 0) v4o v5l) k)))
  | 2 => some (lpS [1, 3, 9, 10, 11] [] [.lst tVersion, .bp 0 0, .own 1, .own 2, .i] [.box [.i, .i, .i, .i, .lst tRange, .lst tWrite, .bool, .str], .arr tRange, .arr .str] vh3 (fun p q => (p.1, p.2.2.2.2.1, q.1.1, q.1.2.1, q.1.2.2.1, q.1.2.2.2.1, q.1.2.2.2.2.1, q.1.2.2.2.2.2.1, q.1.2.2.2.2.2.2.1, q.1.2.2.2.2.2.2.2.1, q.2.1, q.2.2.1)) (fun k => (onE (exZ (.exit 2) v54 v33) k)))
  | 2000011 => some ⟨[0, 2, 4, 6, 8, 10, 12, 14, 16, 18, 20, 22], [], fun _ _ _ => none⟩
  | _ => none
theorem wlj : LpAt G37.shallow ⟨0, 65, vpm⟩ Tryz.f86 0 :=
  vao rfl (fun x => (n81n_bp0 x).p) v4o v5l (exZ (.exit 0) v4o v5l) (fun _ _ => ⟨rfl, rfl⟩) (fun z => by (intro h; cases h)) (fun _ _ => rfl) (fun x => by kernel_rfl)
theorem wj8 : LpAt G37.shallow ⟨0, 65, vpm⟩ Tryz.f86 2 :=
  vao rfl (fun x => (n81n_bp2 x).p) v54 v33 (exZ (.exit 2) v54 v33) (fun _ _ => ⟨rfl, rfl⟩) (fun z => by (intro h; cases h)) (fun _ _ => rfl) (fun x => by kernel_rfl)
theorem wtg : vad Tryz.prog 86 wom :=
  var G37_ok.shallow follows (Tryz.f86.body.getD .skip) Tryz.func86 (by kernel_rfl) fun p q => ⟨vpm, (n81n_p _ _ _).p.map _, by rw [wge]; kernel_rfl, vac (ids := [0, 2]) (by kernel_rfl) (by kernel_rfl) ⟨wlj, ⟨wj8, trivial⟩⟩⟩
def G38 : Glob := G37.add 86 wom
theorem G38_ok : GlobOk Tryz.prog G38 := G37_ok.add ⟨Tryz.f86, Tryz.func86, by kernel_rfl, by kernel_rfl⟩ wtg
def wak : Nat → Option LoopSpec
  | 1000012 => some ⟨[2], [], fun _ _ _ => none⟩
  | _ => none
theorem wsy : vad Tryz.prog 16 wma :=
  var G38_ok.shallow follows (Tryz.f16.body.getD .skip) Tryz.func16 (by kernel_rfl) fun p q => ⟨wak, (n84n_p _ _ _).p.map _, by rw [whl]; kernel_rfl, vac (ids := []) (by kernel_rfl) (by kernel_rfl) trivial⟩
def G39 : Glob := G38.add 16 wma
theorem G39_ok : GlobOk Tryz.prog G39 := G38_ok.add ⟨Tryz.f16, Tryz.func16, by kernel_rfl, by kernel_rfl⟩ wsy
def wbo : Nat → Option LoopSpec
  | _ => none
theorem wsq : vad Tryz.prog 128 wl9 :=
  var G39_ok follows (Tryz.f128.body.getD .skip) Tryz.func128 (by kernel_rfl) fun p q => ⟨wbo, (n22n_p _ _ _).p.map _, by rw [whj]; kernel_rfl, vac (ids := []) (by kernel_rfl) (by kernel_rfl) trivial⟩
def G40 : Glob := G39.add 128 wl9
theorem G40_ok : GlobOk Tryz.prog G40 := G39_ok.add ⟨Tryz.f128, Tryz.func128, by kernel_rfl, by kernel_rfl⟩ wsq
def vrq : (ByteArray × Bool × Int) → List AV := fun x => [.str x.1, .bool x.2.1, .i x.2.2]
def vt6 : (ByteArray × Bool × Int) → St := fun x => []
def vyp : Nat → Option LoopSpec
  | 0 => some (lpS [0, 2, 3] [] [.str, .bool, .i] [] vk6 (fun p q => (p.1, p.2.1, p.2.2.1)) (fun k => (Sum.elim (onE (exZ .ret vrq vt6) k) (onE (exZ (.exit 0) vrq vt6) k))))
  | _ => none
theorem wh6 : LpAt G40 ⟨0, 23, vyp⟩ Tryz.f180 0 :=
  vao rfl (fun x => (n01n_bp0 x).p) vrq vt6 (Sum.elim ((exZ .ret vrq vt6)) ((exZ (.exit 0) vrq vt6))) (fun _ _ => ⟨rfl, rfl⟩) (fun z => by rcases z with z | z <;> (intro h; cases h)) (fun k z => by rcases z with z | z <;> rfl) (fun x => by kernel_rfl)
theorem wp9 : vad Tryz.prog 180 wny :=
  var G40_ok follows (Tryz.f180.body.getD .skip) Tryz.func180 (by kernel_rfl) fun p q => ⟨vyp, (n01n_p _).p.map _, by rw [wcu]; kernel_rfl, vac (ids := [0]) (by kernel_rfl) (by kernel_rfl) ⟨wh6, trivial⟩⟩
def G41 : Glob := G40.add 180 wny
theorem G41_ok : GlobOk Tryz.prog G41 := G40_ok.add ⟨Tryz.f180, Tryz.func180, by kernel_rfl, by kernel_rfl⟩ wp9
def wb4 : Nat → Option LoopSpec
  | _ => none
theorem wrf : vad Tryz.prog 89 wl4 :=
  var G41_ok follows (Tryz.f89.body.getD .skip) Tryz.func89 (by kernel_rfl) fun p q => ⟨wb4, (n06n_p _).p.map _, by rw [we8]; kernel_rfl, vac (ids := []) (by kernel_rfl) (by kernel_rfl) trivial⟩
def G42 : Glob := G41.add 89 wl4
theorem G42_ok : GlobOk Tryz.prog G42 := G41_ok.add ⟨Tryz.f89, Tryz.func89, by kernel_rfl, by kernel_rfl⟩ wrf
def wbb : Nat → Option LoopSpec
  | _ => none
theorem ws4 : vad Tryz.prog 111 wn7 :=
  var G42_ok follows (Tryz.f111.body.getD .skip) Tryz.func111 (by kernel_rfl) fun p q => ⟨wbb, (n15n_p _).p.map _, by rw [wga]; kernel_rfl, vac (ids := []) (by kernel_rfl) (by kernel_rfl) trivial⟩
def G43 : Glob := G42.add 111 wn7
theorem G43_ok : GlobOk Tryz.prog G43 := G42_ok.add ⟨Tryz.f111, Tryz.func111, by kernel_rfl, by kernel_rfl⟩ ws4
def v4x : q6T → List AV := fun x => [.own 0, .lst tTxn x.1, .i x.2.1, .i x.2.2.1]
def v5z : q6T → St := fun x => [.dep tTxn x.2.2.2 0]
def vv4 : Nat → Option LoopSpec
  | 0 => some (lpS [3, 6, 7, 8] [some tTxn] [.own 0, .lst tTxn, .i, .i] [.dep tTxn 0] vjf (fun p q => (p.2.1, p.2.2.1, p.2.2.2.1, q.1)) (fun k => (onE (exZ (.exit 0) v4x v5z) k)))
  | _ => none
theorem wjd : LpAt G43 ⟨0, 19, vv4⟩ Tryz.f196 0 :=
  vao rfl (fun x => (n16n_bp0 x).p) v4x v5z (exZ (.exit 0) v4x v5z) (fun _ _ => ⟨rfl, rfl⟩) (fun z => by (intro h; cases h)) (fun _ _ => rfl) (fun x => by kernel_rfl)
theorem wr1 : vad Tryz.prog 196 wns :=
  var G43_ok follows (Tryz.f196.body.getD .skip) Tryz.func196 (by kernel_rfl) fun p q => ⟨vv4, (n16n_p _).p.map _, by rw [wfe]; kernel_rfl, vac (ids := [0]) (by kernel_rfl) (by kernel_rfl) ⟨wjd, trivial⟩⟩
def G44 : Glob := G43.add 196 wns
theorem G44_ok : GlobOk Tryz.prog G44 := G43_ok.add ⟨Tryz.f196, Tryz.func196, by kernel_rfl, by kernel_rfl⟩ wr1
def wa3 : Nat → Option LoopSpec
  | 2000002 => some ⟨[0, 2, 6, 8, 5, 12, 11, 14, 16, 18], [], fun _ _ _ => none⟩
  | _ => none
theorem wqq : vad Tryz.prog 104 wn6 :=
  var G44_ok follows (Tryz.f104.body.getD .skip) Tryz.func104 (by kernel_rfl) fun p q => ⟨wa3, (n13n_p _).p.map _, by rw [wck]; kernel_rfl, vac (ids := []) (by kernel_rfl) (by kernel_rfl) trivial⟩
def G45 : Glob := G44.add 104 wn6
theorem G45_ok : GlobOk Tryz.prog G45 := G44_ok.add ⟨Tryz.f104, Tryz.func104, by kernel_rfl, by kernel_rfl⟩ wqq
def wab : Nat → Option LoopSpec
  | 2000001 => some ⟨[0, 2, 6, 8, 5, 11, 12, 14], [], fun _ _ _ => none⟩
  | _ => none
theorem ws7 : vad Tryz.prog 177 wm1 :=
  var G45_ok follows (Tryz.f177.body.getD .skip) Tryz.func177 (by kernel_rfl) fun p q => ⟨wab, (n14n_p _).p.map _, by rw [wft]; kernel_rfl, vac (ids := []) (by kernel_rfl) (by kernel_rfl) trivial⟩
def G46 : Glob := G45.add 177 wm1
theorem G46_ok : GlobOk Tryz.prog G46 := G45_ok.add ⟨Tryz.f177, Tryz.func177, by kernel_rfl, by kernel_rfl⟩ ws7
def wav : Nat → Option LoopSpec
  | _ => none
theorem wqc : vad Tryz.prog 233 wl7 :=
  var G46_ok follows (Tryz.f233.body.getD .skip) Tryz.func233 (by kernel_rfl) fun p q => ⟨wav, (n03n_p _ _).p.map _, by rw [wha]; kernel_rfl, vac (ids := []) (by kernel_rfl) (by kernel_rfl) trivial⟩
def G47 : Glob := G46.add 233 wl7
theorem G47_ok : GlobOk Tryz.prog G47 := G46_ok.add ⟨Tryz.f233, Tryz.func233, by kernel_rfl, by kernel_rfl⟩ wqc
def vtz : q7T → List AV := fun x => [.lst tTxn x.1, .fn 233 [.bp 0 0], .i x.2.1, .i x.2.2.1, .i x.2.2.2.1]
def vrm : q7T → St := fun x => [.box [.i x.2.2.2.2]]
def vwu : Nat → Option LoopSpec
  | 0 => some (lpS [0, 1, 4, 7, 8] [] [.lst tTxn, .fn 233 [.bp 0 0], .i, .i, .i] [.box [.i]] vjc (fun p q => (p.1, p.2.2.1, p.2.2.2.1, p.2.2.2.2.1, q.1.1)) (fun k => (Sum.elim (onE (exZ .ret vtz vrm) k) (onE (exZ (.exit 0) vtz vrm) k))))
  | _ => none
theorem wh7 : LpAt G47 ⟨1, 19, vwu⟩ Tryz.f113 0 :=
  vao rfl (fun x => (n73n_bp0 x).p) vtz vrm (Sum.elim ((exZ .ret vtz vrm)) ((exZ (.exit 0) vtz vrm))) (fun _ _ => ⟨rfl, rfl⟩) (fun z => by rcases z with z | z <;> (intro h; cases h)) (fun k z => by rcases z with z | z <;> rfl) (fun x => by kernel_rfl)
theorem vi4 : vad Tryz.prog 113 vd1 :=
  var G47_ok follows (Tryz.f113.body.getD .skip) Tryz.func113 (by kernel_rfl) fun p q => ⟨vwu, (n73n_p _ _).p.map _, by rw [wc4]; kernel_rfl, vac (ids := [0]) (by kernel_rfl) (by kernel_rfl) ⟨wh7, trivial⟩⟩
def G48 : Glob := G47.add 113 vd1
theorem G48_ok : GlobOk Tryz.prog G48 := G47_ok.add ⟨Tryz.f113, Tryz.func113, by kernel_rfl, by kernel_rfl⟩ vi4
def war : Nat → Option LoopSpec
  | _ => none
theorem wtc : vad Tryz.prog 178 woi :=
  var G48_ok follows (Tryz.f178.body.getD .skip) Tryz.func178 (by kernel_rfl) fun p q => ⟨war, (n02n_p _ _).p.map _, by rw [wgg]; kernel_rfl, vac (ids := []) (by kernel_rfl) (by kernel_rfl) trivial⟩
def G49 : Glob := G48.add 178 woi
theorem G49_ok : GlobOk Tryz.prog G49 := G48_ok.add ⟨Tryz.f178, Tryz.func178, by kernel_rfl, by kernel_rfl⟩ wtc
def wbm : Nat → Option LoopSpec
  | _ => none
theorem ws3 : vad Tryz.prog 254 wn1 :=
  var G49_ok follows (Tryz.f254.body.getD .skip) Tryz.func254 (by kernel_rfl) fun p q => ⟨wbm, (n11n_p _).p.map _, by rw [whk]; kernel_rfl, vac (ids := []) (by kernel_rfl) (by kernel_rfl) trivial⟩
def G50 : Glob := G49.add 254 wn1
theorem G50_ok : GlobOk Tryz.prog G50 := G49_ok.add ⟨Tryz.f254, Tryz.func254, by kernel_rfl, by kernel_rfl⟩ ws3
def vra : q23T → List AV := fun x => [.lst tWrite x.1, .bool x.2.1, .lst tWrite x.2.2.1, .i x.2.2.2.1, .i x.2.2.2.2]
def vsl : q23T → St := fun x => []
def vvu : Nat → Option LoopSpec
  | 0 => some (lpS [0, 2, 5, 6, 7] [] [.lst tWrite, .bool, .lst tWrite, .i, .i] [] vlc (fun p q => (p.1, p.2.1, p.2.2.1, p.2.2.2.1, p.2.2.2.2.1)) (fun k => (Sum.elim (onE (exZ .ret vra vsl) k) (onE (exZ (.exit 0) vra vsl) k))))
  | 2000004 => some ⟨[0, 3, 4, 6, 8, 10, 12, 14, 16, 18, 20, 22, 24, 26, 28, 30, 32, 34], [], fun _ _ _ => none⟩
  | _ => none
theorem wju : LpAt G50 ⟨0, 34, vvu⟩ Tryz.f213 0 :=
  vao rfl (fun x => (n12n_bp0 x).p) vra vsl (Sum.elim ((exZ .ret vra vsl)) ((exZ (.exit 0) vra vsl))) (fun _ _ => ⟨rfl, rfl⟩) (fun z => by rcases z with z | z <;> (intro h; cases h)) (fun k z => by rcases z with z | z <;> rfl) (fun x => by kernel_rfl)
theorem ws1 : vad Tryz.prog 213 wnv :=
  var G50_ok follows (Tryz.f213.body.getD .skip) Tryz.func213 (by kernel_rfl) fun p q => ⟨vvu, (n12n_p _).p.map _, by rw [wdt]; kernel_rfl, vac (ids := [0]) (by kernel_rfl) (by kernel_rfl) ⟨wju, trivial⟩⟩
def G51 : Glob := G50.add 213 wnv
theorem G51_ok : GlobOk Tryz.prog G51 := G50_ok.add ⟨Tryz.f213, Tryz.func213, by kernel_rfl, by kernel_rfl⟩ ws1
def vf4 : q33T → List AV := fun x => [.bp 0 0, .bool x.1]
def vg1 : q33T → St := fun x => [.box [.i x.2.1, .i x.2.2.1, .i x.2.2.2.1, .i x.2.2.2.2.1, .lst tRange x.2.2.2.2.2.1, .lst tWrite x.2.2.2.2.2.2.1, .bool x.2.2.2.2.2.2.2.1, .str x.2.2.2.2.2.2.2.2]]
def vg8 : q33T → List AV := fun x => [.bp 0 0, .bool x.1]
def vgs : q33T → St := fun x => [.box [.i x.2.1, .i x.2.2.1, .i x.2.2.2.1, .i x.2.2.2.2.1, .lst tRange x.2.2.2.2.2.1, .lst tWrite x.2.2.2.2.2.2.1, .bool x.2.2.2.2.2.2.2.1, .str x.2.2.2.2.2.2.2.2]]
def vrp : q28T → List AV := fun x => [.bp 0 0, .bool x.1, .lst tRange x.2.1, .i x.2.2.1, .i x.2.2.2.1]
def vr5 : q28T → St := fun x => let xh := x.2.2.2.2.2.2.2.2; [.box [.i x.2.2.2.2.1, .i x.2.2.2.2.2.1, .i x.2.2.2.2.2.2.1, .i x.2.2.2.2.2.2.2.1, .lst tRange xh.1, .lst tWrite xh.2.1, .bool xh.2.2.1, .str xh.2.2.2]]
def vlz : Nat → Option LoopSpec
  | 5000011 => some (ctS [1, 2] [] [.bp 0 0, .bool] [.box [.i, .i, .i, .i, .lst tRange, .lst tWrite, .bool, .str]] vbq (fun p q => (p.2.1, q.1.1, q.1.2.1, q.1.2.2.1, q.1.2.2.2.1, q.1.2.2.2.2.1, q.1.2.2.2.2.2.1, q.1.2.2.2.2.2.2.1, q.1.2.2.2.2.2.2.2.1)) (fun k => (onE (exZ .ret vf4 vg1) k)))
  | 5000009 => some (ctS [1, 2] [] [.bp 0 0, .bool] [.box [.i, .i, .i, .i, .lst tRange, .lst tWrite, .bool, .str]] vcb (fun p q => (p.2.1, q.1.1, q.1.2.1, q.1.2.2.1, q.1.2.2.2.1, q.1.2.2.2.2.1, q.1.2.2.2.2.2.1, q.1.2.2.2.2.2.2.1, q.1.2.2.2.2.2.2.2.1)) (fun k => (onE (exZ .ret vg8 vgs) k)))
  | 0 => some (lpS [1, 2, 6, 7, 8] [] [.bp 0 0, .bool, .lst tRange, .i, .i] [.box [.i, .i, .i, .i, .lst tRange, .lst tWrite, .bool, .str]] vko (fun p q => (p.2.1, p.2.2.1, p.2.2.2.1, p.2.2.2.2.1, q.1.1, q.1.2.1, q.1.2.2.1, q.1.2.2.2.1, q.1.2.2.2.2.1, q.1.2.2.2.2.2.1, q.1.2.2.2.2.2.2.1, q.1.2.2.2.2.2.2.2.1)) (fun k => (Sum.elim (onE (exZ .ret vrp vr5) k) (onE (exZ (.exit 0) vrp vr5) k))))
  | _ => none
theorem vu6 : CtAt G51 ⟨0, 93, vlz⟩ Tryz.f129 5000011 :=
  vei rfl (fun x => (n10n_jp5000011 x).p) vf4 vg1 (exZ .ret vf4 vg1) (fun _ _ => ⟨rfl, rfl⟩) (fun _ _ => rfl) (fun x => by kernel_rfl)
theorem vul : CtAt G51 ⟨0, 93, vlz⟩ Tryz.f129 5000009 :=
  vei rfl (fun x => (n10n_jp5000009 x).p) vg8 vgs (exZ .ret vg8 vgs) (fun _ _ => ⟨rfl, rfl⟩) (fun _ _ => rfl) (fun x => by kernel_rfl)
theorem wks : LpAt G51 ⟨0, 93, vlz⟩ Tryz.f129 0 :=
  vao rfl (fun x => (n10n_bp0 x).p) vrp vr5 (Sum.elim ((exZ .ret vrp vr5)) ((exZ (.exit 0) vrp vr5))) (fun _ _ => ⟨rfl, rfl⟩) (fun z => by rcases z with z | z <;> (intro h; cases h)) (fun k z => by rcases z with z | z <;> rfl) (fun x => by kernel_rfl)
theorem wtp : vad Tryz.prog 129 wmf :=
  var G51_ok follows (Tryz.f129.body.getD .skip) Tryz.func129 (by kernel_rfl) fun p q => ⟨vlz, (n10n_p _).p.map _, by rw [we7]; kernel_rfl, vac (ids := [5000011, 5000009, 0]) (by kernel_rfl) (by kernel_rfl) ⟨vu6, ⟨vul, ⟨wks, trivial⟩⟩⟩⟩
def G52 : Glob := G51.add 129 wmf
theorem G52_ok : GlobOk Tryz.prog G52 := G51_ok.add ⟨Tryz.f129, Tryz.func129, by kernel_rfl, by kernel_rfl⟩ wtp
def vrh : q2T → List AV := fun x => [.lst tRange x.1, .bp 0 0, .i x.2.1, .i x.2.2.1, .i x.2.2.2.1]
def vsn : q2T → St := fun x => [.box [.str x.2.2.2.2.1, .str x.2.2.2.2.2]]
def vxw : Nat → Option LoopSpec
  | 0 => some (lpS [0, 3, 4, 7, 8] [] [.lst tRange, .bp 0 0, .i, .i, .i] [.box [.str, .str]] vlb (fun p q => (p.1, p.2.2.1, p.2.2.2.1, p.2.2.2.2.1, q.1.1, q.1.2.1)) (fun k => (Sum.elim (onE (exZ .ret vrh vsn) k) (onE (exZ (.exit 0) vrh vsn) k))))
  | _ => none
theorem wjx : LpAt G52 ⟨0, 19, vxw⟩ Tryz.f261 0 :=
  vao rfl (fun x => (n75n_bp0 x).p) vrh vsn (Sum.elim ((exZ .ret vrh vsn)) ((exZ (.exit 0) vrh vsn))) (fun _ _ => ⟨rfl, rfl⟩) (fun z => by rcases z with z | z <;> (intro h; cases h)) (fun k z => by rcases z with z | z <;> rfl) (fun x => by kernel_rfl)
theorem wts : vad Tryz.prog 261 woh :=
  var G52_ok follows (Tryz.f261.body.getD .skip) Tryz.func261 (by kernel_rfl) fun p q => ⟨vxw, (n75n_p _ _).p.map _, by rw [we1]; kernel_rfl, vac (ids := [0]) (by kernel_rfl) (by kernel_rfl) ⟨wjx, trivial⟩⟩
def G53 : Glob := G52.add 261 woh
theorem G53_ok : GlobOk Tryz.prog G53 := G52_ok.add ⟨Tryz.f261, Tryz.func261, by kernel_rfl, by kernel_rfl⟩ wts
def wb5 : Nat → Option LoopSpec
  | _ => none
theorem wtj : vad Tryz.prog 234 wmx :=
  var G53_ok follows (Tryz.f234.body.getD .skip) Tryz.func234 (by kernel_rfl) fun p q => ⟨wb5, (n72n_p _ _).p.map _, by rw [wev]; kernel_rfl, vac (ids := []) (by kernel_rfl) (by kernel_rfl) trivial⟩
def G54 : Glob := G53.add 234 wmx
theorem G54_ok : GlobOk Tryz.prog G54 := G53_ok.add ⟨Tryz.f234, Tryz.func234, by kernel_rfl, by kernel_rfl⟩ wtj
def vvh : q31T → List AV := fun x => [.bp 0 0, .bp 1 0, .bp 2 0, .bool x.1, .bp 3 0]
def vva : q31T → St := fun x => let xh := x.2.2.2.2.2.2.2.2; let xhh := xh.2.2.2.2.2.2.2.2; let xhhh := xhh.2.2.2.2.2.2.2.2; [.box [.i x.2.1, .i x.2.2.1, .i x.2.2.2.1, .i x.2.2.2.2.1, .lst tRange x.2.2.2.2.2.1, .lst tWrite x.2.2.2.2.2.2.1, .bool x.2.2.2.2.2.2.2.1, .str xh.1], .box [.str xh.2.1, .str xh.2.2.1], .box [.i xh.2.2.2.1, .i xh.2.2.2.2.1, .i xh.2.2.2.2.2.1, .i xh.2.2.2.2.2.2.1, .own 4, .own 5, .bool xh.2.2.2.2.2.2.2.1, .str xhh.1], .box [.i xhh.2.1, .i xhh.2.2.1, .i xhh.2.2.2.1, .i xhh.2.2.2.2.1, .own 6, .own 7, .bool xhh.2.2.2.2.2.1, .str xhh.2.2.2.2.2.2.1], .arr tRange xhh.2.2.2.2.2.2.2.1, .arr tWrite xhhh.1, .arr tRange xhhh.2.1, .arr tWrite xhhh.2.2]
def vjl : q32T → Out × List AV × St := fun z => let zh := z.2.2.2.2.2.2.2.2; let zhh := zh.2.2.2.2.2.2.2.2; (.ret, [.bp 0 0, .bp 1 0, .bp 2 0, .bool z.1, .bp 3 0], [.box [.i z.2.1, .i z.2.2.1, .i z.2.2.2.1, .i z.2.2.2.2.1, .lst tRange z.2.2.2.2.2.1, .lst tWrite z.2.2.2.2.2.2.1, .bool z.2.2.2.2.2.2.2.1, .str zh.1], .box [.str zh.2.1, .str zh.2.2.1], .box [.i zh.2.2.2.1, .i zh.2.2.2.2.1, .i zh.2.2.2.2.2.1, .i zh.2.2.2.2.2.2.1, .own 4, .own 5, .bool zh.2.2.2.2.2.2.2.1, .str zhh.1], .box [.i zhh.2.1, .i zhh.2.2.1, .i zhh.2.2.2.1, .i zhh.2.2.2.2.1, .own 4, .own 5, .bool zhh.2.2.2.2.2.1, .str zhh.2.2.2.2.2.2.1], .arr tRange zhh.2.2.2.2.2.2.2.1, .arr tWrite zhh.2.2.2.2.2.2.2.2])
def vwf : Nat → Option LoopSpec
  | 5000004 => some (ctS [2, 3, 4, 5, 6] [none, none, none, none, none, none, none, none, none, none, none, none, none, none, none, none, none, none, none, some tRange, some tWrite] [.bp 0 0, .bp 1 0, .bp 2 0, .bool, .bp 3 0] [.box [.i, .i, .i, .i, .lst tRange, .lst tWrite, .bool, .str], .box [.str, .str], .box [.i, .i, .i, .i, .own 4, .own 5, .bool, .str], .box [.i, .i, .i, .i, .own 6, .own 7, .bool, .str], .arr tRange, .arr tWrite, .arr tRange, .arr tWrite] vcp (fun p q => (p.2.2.2.1, q.1.1, q.1.2.1, q.1.2.2.1, q.1.2.2.2.1, q.1.2.2.2.2.1, q.1.2.2.2.2.2.1, q.1.2.2.2.2.2.2.1, q.1.2.2.2.2.2.2.2.1, q.2.1.1, q.2.1.2.1, q.2.2.1.1, q.2.2.1.2.1, q.2.2.1.2.2.1, q.2.2.1.2.2.2.1, q.2.2.1.2.2.2.2.2.2.1, q.2.2.1.2.2.2.2.2.2.2.1, q.2.2.2.1.1, q.2.2.2.1.2.1, q.2.2.2.1.2.2.1, q.2.2.2.1.2.2.2.1, q.2.2.2.1.2.2.2.2.2.2.1, q.2.2.2.1.2.2.2.2.2.2.2.1, q.2.2.2.2.1, q.2.2.2.2.2.1, q.2.2.2.2.2.2.1, q.2.2.2.2.2.2.2.1)) (fun k => (onE vjl k)))
  | _ => none
theorem vuk : CtAt G54 ⟨0, 40, vwf⟩ Tryz.f179 5000004 :=
  vei rfl (fun x => (n07n_jp5000004 x).p) vvh vva vjl (fun _ _ => ⟨rfl, rfl⟩) (fun _ _ => rfl) (fun x => by kernel_rfl)
theorem wro : vad Tryz.prog 179 wmp :=
  var G54_ok follows (Tryz.f179.body.getD .skip) Tryz.func179 (by kernel_rfl) fun p q => ⟨vwf, (n07n_p _ _).p.map _, by rw [wfi]; kernel_rfl, vac (ids := [5000004]) (by kernel_rfl) (by kernel_rfl) ⟨vuk, trivial⟩⟩
def G55 : Glob := G54.add 179 wmp
theorem G55_ok : GlobOk Tryz.prog G55 := G54_ok.add ⟨Tryz.f179, Tryz.func179, by kernel_rfl, by kernel_rfl⟩ wro
def wbs : Nat → Option LoopSpec
  | _ => none
theorem wra : vad Tryz.prog 88 woc :=
  var G55_ok follows (Tryz.f88.body.getD .skip) Tryz.func88 (by kernel_rfl) fun p q => ⟨wbs, (n21n_p _ _ _ _).p.map _, by rw [wg3]; kernel_rfl, vac (ids := []) (by kernel_rfl) (by kernel_rfl) trivial⟩
def G56 : Glob := G55.add 88 woc
theorem G56_ok : GlobOk Tryz.prog G56 := G55_ok.add ⟨Tryz.f88, Tryz.func88, by kernel_rfl, by kernel_rfl⟩ wra
theorem vme : vad Tryz.prog 182 vc0 := by
  intro args s k r hk
  unfold vc0 at hk
  rw [v6s] at hk
  unfold vv2 at hk
  have e : Tryz.laysSort_ren.f 190 = 182 := by kernel_rfl
  exact e ▸ vy7 Tryz.laysSort args s k r hk
def G57 : Glob := G56.add 182 vc0
theorem G57_ok : GlobOk Tryz.prog G57 := G56_ok.add ⟨Tryz.f182, Tryz.func182, by kernel_rfl, by kernel_rfl⟩ vme
def v36 : (Int × Nat × Int × (List ByteArray)) → List AV := fun x => [.own 0, .i x.1, .win 0 x.2.1, .i x.2.2.1]
def v5e : (Int × Nat × Int × (List ByteArray)) → St := fun x => [.arr .str x.2.2.2]
def v4m : q38T → List AV := fun x => [.own 0, .own 1, .i x.1]
def v3v : q38T → St := fun x => [.arr .str x.2.1, .arr .str x.2.2]
def v7d : (Int × (List ByteArray)) → Out × List AV × St := fun z => (.ret, [.own 0, .own 1, .i z.1], [.gone, .arr .str z.2])
def vpf : Nat → Option LoopSpec
  | 2 => some (lpS [0, 3, 4, 5] [] [.own 0, .i, .win 0, .i] [.arr .str] vie (fun p q => (p.2.1, p.2.2.1, p.2.2.2.1, q.1)) (fun k => (onE (exZ (.exit 2) v36 v5e) k)))
  | 0 => some (lpS [0, 2, 3] [none, some .str] [.own 0, .own 1, .i] [.arr .str, .arr .str] vgh (fun p q => (p.2.2.1, q.1, q.2.1)) (fun k => (Sum.elim (onE (exZ (.exit 0) v4m v3v) k) (onE v7d k))))
  | 2000006 => some ⟨[0, 2, 4, 6, 8, 10, 12, 14, 16, 18], [], fun _ _ _ => none⟩
  | 2000011 => some ⟨[0, 2, 4, 6, 8, 10, 12, 14, 16, 18], [], fun _ _ _ => none⟩
  | _ => none
theorem wi3 : LpAt G57 ⟨1, 61, vpf⟩ Tryz.f183 2 :=
  vao rfl (fun x => (n71n_bp2 x).p) v36 v5e (exZ (.exit 2) v36 v5e) (fun _ _ => ⟨rfl, rfl⟩) (fun z => by (intro h; cases h)) (fun _ _ => rfl) (fun x => by kernel_rfl)
theorem wk7 : LpAt G57 ⟨1, 61, vpf⟩ Tryz.f183 0 :=
  vao rfl (fun x => (n71n_bp0 x).p) v4m v3v (Sum.elim ((exZ (.exit 0) v4m v3v)) (v7d)) (fun _ _ => ⟨rfl, rfl⟩) (fun z => by rcases z with z | z <;> (intro h; cases h)) (fun k z => by rcases z with z | z <;> rfl) (fun x => by kernel_rfl)
theorem vib : vad Tryz.prog 183 vdz :=
  var G57_ok follows (Tryz.f183.body.getD .skip) Tryz.func183 (by kernel_rfl) fun p q => ⟨vpf, (n71n_p _).p.map2 _ _, by rw [wc0]; kernel_rfl, vac (ids := [2, 0]) (by kernel_rfl) (by kernel_rfl) ⟨wi3, ⟨wk7, trivial⟩⟩⟩
def G58 : Glob := G57.add 183 vdz
theorem G58_ok : GlobOk Tryz.prog G58 := G57_ok.add ⟨Tryz.f183, Tryz.func183, by kernel_rfl, by kernel_rfl⟩ vib
def v3e : q17T → List AV := fun x => [.own 0, .lst tVersion x.1, .i x.2.1, .i x.2.2.1]
def v34 : q17T → St := fun x => [.arr .str x.2.2.2]
def vyq : Nat → Option LoopSpec
  | 0 => some (lpS [3, 6, 7, 8] [some .str] [.own 0, .lst tVersion, .i, .i] [.arr .str] vjj (fun p q => (p.2.1, p.2.2.1, p.2.2.2.1, q.1)) (fun k => (onE (exZ (.exit 0) v3e v34) k)))
  | _ => none
theorem wk5 : LpAt G58 ⟨0, 22, vyq⟩ Tryz.f181 0 :=
  vao rfl (fun x => (n17n_bp0 x).p) v3e v34 (exZ (.exit 0) v3e v34) (fun _ _ => ⟨rfl, rfl⟩) (fun z => by (intro h; cases h)) (fun _ _ => rfl) (fun x => by kernel_rfl)
theorem wq3 : vad Tryz.prog 181 wnw :=
  var G58_ok follows (Tryz.f181.body.getD .skip) Tryz.func181 (by kernel_rfl) fun p q => ⟨vyq, (n17n_p _).p.map _, by rw [wf1]; kernel_rfl, vac (ids := [0]) (by kernel_rfl) (by kernel_rfl) ⟨wk5, trivial⟩⟩
def G59 : Glob := G58.add 181 wnw
theorem G59_ok : GlobOk Tryz.prog G59 := G58_ok.add ⟨Tryz.f181, Tryz.func181, by kernel_rfl, by kernel_rfl⟩ wq3
def wa0 : Nat → Option LoopSpec
  | _ => none
theorem wqt : vad Tryz.prog 274 wod :=
  var G59_ok follows (Tryz.f274.body.getD .skip) Tryz.func274 (by kernel_rfl) fun p q => ⟨wa0, (n20n_p _ _).p.map _, by rw [we9]; kernel_rfl, vac (ids := []) (by kernel_rfl) (by kernel_rfl) trivial⟩
def G60 : Glob := G59.add 274 wod
theorem G60_ok : GlobOk Tryz.prog G60 := G59_ok.add ⟨Tryz.f274, Tryz.func274, by kernel_rfl, by kernel_rfl⟩ wqt
def vtb : q25T → List AV := fun x => [.lst tWrite x.1, .fn 274 [.bp 0 0], .i x.2.1, .i x.2.2.1, .i x.2.2.2.1]
def vtw : q25T → St := fun x => [.box [.str x.2.2.2.2]]
def vya : Nat → Option LoopSpec
  | 0 => some (lpS [0, 1, 4, 7, 8] [] [.lst tWrite, .fn 274 [.bp 0 0], .i, .i, .i] [.box [.str]] vke (fun p q => (p.1, p.2.2.1, p.2.2.2.1, p.2.2.2.2.1, q.1.1)) (fun k => (Sum.elim (onE (exZ .ret vtb vtw) k) (onE (exZ (.exit 0) vtb vtw) k))))
  | _ => none
theorem wi6 : LpAt G60 ⟨1, 19, vya⟩ Tryz.f273 0 :=
  vao rfl (fun x => (n74n_bp0 x).p) vtb vtw (Sum.elim ((exZ .ret vtb vtw)) ((exZ (.exit 0) vtb vtw))) (fun _ _ => ⟨rfl, rfl⟩) (fun z => by rcases z with z | z <;> (intro h; cases h)) (fun k z => by rcases z with z | z <;> rfl) (fun x => by kernel_rfl)
theorem vhi : vad Tryz.prog 273 vdd :=
  var G60_ok follows (Tryz.f273.body.getD .skip) Tryz.func273 (by kernel_rfl) fun p q => ⟨vya, (n74n_p _ _).p.map _, by rw [whf]; kernel_rfl, vac (ids := [0]) (by kernel_rfl) (by kernel_rfl) ⟨wi6, trivial⟩⟩
def G61 : Glob := G60.add 273 vdd
theorem G61_ok : GlobOk Tryz.prog G61 := G60_ok.add ⟨Tryz.f273, Tryz.func273, by kernel_rfl, by kernel_rfl⟩ vhi
def v94 : Nat → Option LoopSpec
  | _ => none
theorem ws0 : vad Tryz.prog 237 wms :=
  var G61_ok follows (Tryz.f237.body.getD .skip) Tryz.func237 (by kernel_rfl) fun p q => ⟨v94, (n19n_p _ _).p.map _, by rw [wde]; kernel_rfl, vac (ids := []) (by kernel_rfl) (by kernel_rfl) trivial⟩
def G62 : Glob := G61.add 237 wms
theorem G62_ok : GlobOk Tryz.prog G62 := G61_ok.add ⟨Tryz.f237, Tryz.func237, by kernel_rfl, by kernel_rfl⟩ ws0
def v3m : q12T → List AV := fun x => [.lst tVersion x.1, .str x.2.1, .i x.2.2.1, .i x.2.2.2.1, .lst tVersion x.2.2.2.2.1, .i x.2.2.2.2.2.1, .i x.2.2.2.2.2.2]
def v3i : q12T → St := fun x => []
def vvl : Nat → Option LoopSpec
  | 0 => some (lpS [0, 1, 2, 7, 10, 11, 12] [] [.lst tVersion, .str, .i, .i, .lst tVersion, .i, .i] [] vk7 (fun p q => (p.1, p.2.1, p.2.2.1, p.2.2.2.1, p.2.2.2.2.1, p.2.2.2.2.2.1, p.2.2.2.2.2.2.1)) (fun k => (onE (exZ (.exit 0) v3m v3i) k)))
  | 2000005 => some ⟨[0, 2, 4, 6, 8, 10, 12, 14, 16, 18, 20, 22, 24, 26, 28, 30, 32, 34, 36, 38, 40, 42, 44, 46], [], fun _ _ _ => none⟩
  | _ => none
theorem wko : LpAt G62 ⟨0, 44, vvl⟩ Tryz.f210 0 :=
  vao rfl (fun x => (n18n_bp0 x).p) v3m v3i (exZ (.exit 0) v3m v3i) (fun _ _ => ⟨rfl, rfl⟩) (fun z => by (intro h; cases h)) (fun _ _ => rfl) (fun x => by kernel_rfl)
theorem wqh : vad Tryz.prog 210 wm3 :=
  var G62_ok follows (Tryz.f210.body.getD .skip) Tryz.func210 (by kernel_rfl) fun p q => ⟨vvl, (n18n_p _ _ _).p.map _, by rw [wcd]; kernel_rfl, vac (ids := [0]) (by kernel_rfl) (by kernel_rfl) ⟨wko, trivial⟩⟩
def G63 : Glob := G62.add 210 wm3
theorem G63_ok : GlobOk Tryz.prog G63 := G62_ok.add ⟨Tryz.f210, Tryz.func210, by kernel_rfl, by kernel_rfl⟩ wqh
def wah : Nat → Option LoopSpec
  | _ => none
theorem wrm : vad Tryz.prog 238 wmi :=
  var G63_ok follows (Tryz.f238.body.getD .skip) Tryz.func238 (by kernel_rfl) fun p q => ⟨wah, (n09n_p _ _ _).p.map _, by rw [we3]; kernel_rfl, vac (ids := []) (by kernel_rfl) (by kernel_rfl) trivial⟩
def G64 : Glob := G63.add 238 wmi
theorem G64_ok : GlobOk Tryz.prog G64 := G63_ok.add ⟨Tryz.f238, Tryz.func238, by kernel_rfl, by kernel_rfl⟩ wrm
def wat : Nat → Option LoopSpec
  | _ => none
theorem wq9 : vad Tryz.prog 184 wmo :=
  var G64_ok follows (Tryz.f184.body.getD .skip) Tryz.func184 (by kernel_rfl) fun p q => ⟨wat, (n04n_p _ _ _).p.map _, by rw [wfr]; kernel_rfl, vac (ids := []) (by kernel_rfl) (by kernel_rfl) trivial⟩
def G65 : Glob := G64.add 184 wmo
theorem G65_ok : GlobOk Tryz.prog G65 := G64_ok.add ⟨Tryz.f184, Tryz.func184, by kernel_rfl, by kernel_rfl⟩ wq9
def wax : Nat → Option LoopSpec
  | _ => none
theorem wrb : vad Tryz.prog 185 wm9 :=
  var G65_ok follows (Tryz.f185.body.getD .skip) Tryz.func185 (by kernel_rfl) fun p q => ⟨wax, (n00n_p _ _).p.map _, by rw [wfg]; kernel_rfl, vac (ids := []) (by kernel_rfl) (by kernel_rfl) trivial⟩
def G66 : Glob := G65.add 185 wm9
theorem G66_ok : GlobOk Tryz.prog G66 := G65_ok.add ⟨Tryz.f185, Tryz.func185, by kernel_rfl, by kernel_rfl⟩ wrb
def v4y : q10T → List AV := fun x => [.lst tVersion x.1, .bp 0 0, .bp 1 0, .own 2, .lst tWrite x.2.1, .i x.2.2.1, .i x.2.2.2.1]
def v3q : q10T → St := fun x => let xh := x.2.2.2.2.2.2.2.2; [.box [.i x.2.2.2.2.1, .i x.2.2.2.2.2.1, .i x.2.2.2.2.2.2.1, .i x.2.2.2.2.2.2.2.1, .lst tRange xh.1, .lst tWrite xh.2.1, .bool xh.2.2.1, .str xh.2.2.2.1], .box [.str xh.2.2.2.2.1, .str xh.2.2.2.2.2.1], .arr .str xh.2.2.2.2.2.2]
def v40 : q20T → List AV := fun x => [.lst tVersion x.1, .bp 0 0, .bp 1 0, .own 2, .own 3, .i x.2.1, .i x.2.2.1]
def v38 : q20T → St := fun x => let xh := x.2.2.2.2.2.2.2.2; [.box [.i x.2.2.2.1, .i x.2.2.2.2.1, .i x.2.2.2.2.2.1, .i x.2.2.2.2.2.2.1, .lst tRange x.2.2.2.2.2.2.2.1, .lst tWrite xh.1, .bool xh.2.1, .str xh.2.2.1], .box [.str xh.2.2.2.1, .str xh.2.2.2.2.1], .arr tRange xh.2.2.2.2.2.1, .arr .str xh.2.2.2.2.2.2]
def vps : Nat → Option LoopSpec
  | 0 => some (lpS [1, 3, 5, 7, 18, 19, 20] [] [.lst tVersion, .bp 0 0, .bp 1 0, .own 2, .lst tWrite, .i, .i] [.box [.i, .i, .i, .i, .lst tRange, .lst tWrite, .bool, .str], .box [.str, .str], .arr .str] vk5 (fun p q => (p.1, p.2.2.2.2.1, p.2.2.2.2.2.1, p.2.2.2.2.2.2.1, q.1.1, q.1.2.1, q.1.2.2.1, q.1.2.2.2.1, q.1.2.2.2.2.1, q.1.2.2.2.2.2.1, q.1.2.2.2.2.2.2.1, q.1.2.2.2.2.2.2.2.1, q.2.1.1, q.2.1.2.1, q.2.2.1)) (fun k => (onE (exZ (.exit 0) v4y v3q) k)))
  | 2 => some (lpS [1, 3, 5, 10, 33, 34, 35] [none, none, none, some tRange] [.lst tVersion, .bp 0 0, .bp 1 0, .own 2, .own 3, .i, .i] [.box [.i, .i, .i, .i, .lst tRange, .lst tWrite, .bool, .str], .box [.str, .str], .arr tRange, .arr .str] vet (fun p q => (p.1, p.2.2.2.2.2.1, p.2.2.2.2.2.2.1, q.1.1, q.1.2.1, q.1.2.2.1, q.1.2.2.2.1, q.1.2.2.2.2.1, q.1.2.2.2.2.2.1, q.1.2.2.2.2.2.2.1, q.1.2.2.2.2.2.2.2.1, q.2.1.1, q.2.1.2.1, q.2.2.1, q.2.2.2.1)) (fun k => (onE (exZ (.exit 2) v40 v38) k)))
  | _ => none
theorem wlb : LpAt G66 ⟨0, 60, vps⟩ Tryz.f90 0 :=
  vao rfl (fun x => (n05n_bp0 x).p) v4y v3q (exZ (.exit 0) v4y v3q) (fun _ _ => ⟨rfl, rfl⟩) (fun z => by (intro h; cases h)) (fun _ _ => rfl) (fun x => by kernel_rfl)
theorem wk8 : LpAt G66 ⟨0, 60, vps⟩ Tryz.f90 2 :=
  vao rfl (fun x => (n05n_bp2 x).p) v40 v38 (exZ (.exit 2) v40 v38) (fun _ _ => ⟨rfl, rfl⟩) (fun z => by (intro h; cases h)) (fun _ _ => rfl) (fun x => by kernel_rfl)
theorem wqz : vad Tryz.prog 90 wm8 :=
  var G66_ok follows (Tryz.f90.body.getD .skip) Tryz.func90 (by kernel_rfl) fun p q => ⟨vps, (n05n_p _ _ _).p.map _, by rw [wfj]; kernel_rfl, vac (ids := [0, 2]) (by kernel_rfl) (by kernel_rfl) ⟨wlb, ⟨wk8, trivial⟩⟩⟩
def G67 : Glob := G66.add 90 wm8
theorem G67_ok : GlobOk Tryz.prog G67 := G66_ok.add ⟨Tryz.f90, Tryz.func90, by kernel_rfl, by kernel_rfl⟩ wqz
def wa5 : Nat → Option LoopSpec
  | 1000004 => some ⟨[2], [], fun _ _ _ => none⟩
  | 3000000 => some ⟨[], [none, none, none, none, none, none, some tRange], fun _ _ _ => none⟩
  | _ => none
theorem wtd : vad Tryz.prog 19 wn5 :=
  var G67_ok follows (Tryz.f19.body.getD .skip) Tryz.func19 (by kernel_rfl) fun p q => ⟨wa5, (n08n_p _ _ _).p.map _, by rw [wg8]; kernel_rfl, vac (ids := []) (by kernel_rfl) (by kernel_rfl) trivial⟩
def G68 : Glob := G67.add 19 wn5
theorem G68_ok : GlobOk Tryz.prog G68 := G67_ok.add ⟨Tryz.f19, Tryz.func19, by kernel_rfl, by kernel_rfl⟩ wtd
def waf : Nat → Option LoopSpec
  | _ => none
theorem wsr : vad Tryz.prog 197 wml :=
  var G68_ok follows (Tryz.f197.body.getD .skip) Tryz.func197 (by kernel_rfl) fun p q => ⟨waf, (n32n_p _ _).p.map _, by rw [wf7]; kernel_rfl, vac (ids := []) (by kernel_rfl) (by kernel_rfl) trivial⟩
def G69 : Glob := G68.add 197 wml
theorem G69_ok : GlobOk Tryz.prog G69 := G68_ok.add ⟨Tryz.f197, Tryz.func197, by kernel_rfl, by kernel_rfl⟩ wsr
def vue : q9T → List AV := fun x => [.lst tVersion x.1, .lst tVersion x.2.1, .bool x.2.2.1, .i x.2.2.2]
def vr3 : q9T → St := fun x => []
def vvo : Nat → Option LoopSpec
  | 0 => some (lpS [0, 1, 4, 5] [] [.lst tVersion, .lst tVersion, .bool, .i] [] vle (fun p q => (p.1, p.2.1, p.2.2.1, p.2.2.2.1)) (fun k => (Sum.elim (onE (exZ .ret vue vr3) k) (onE (exZ (.exit 0) vue vr3) k))))
  | 2000006 => some ⟨[0, 2, 4, 6, 8, 10, 12, 14, 16, 18], [], fun _ _ _ => none⟩
  | _ => none
theorem wjz : LpAt G69 ⟨0, 27, vvo⟩ Tryz.f105 0 :=
  vao rfl (fun x => (n33n_bp0 x).p) vue vr3 (Sum.elim ((exZ .ret vue vr3)) ((exZ (.exit 0) vue vr3))) (fun _ _ => ⟨rfl, rfl⟩) (fun z => by rcases z with z | z <;> (intro h; cases h)) (fun k z => by rcases z with z | z <;> rfl) (fun x => by kernel_rfl)
theorem wrz : vad Tryz.prog 105 wm0 :=
  var G69_ok follows (Tryz.f105.body.getD .skip) Tryz.func105 (by kernel_rfl) fun p q => ⟨vvo, (n33n_p _ _).p.map _, by rw [wgr]; kernel_rfl, vac (ids := [0]) (by kernel_rfl) (by kernel_rfl) ⟨wjz, trivial⟩⟩
def G70 : Glob := G69.add 105 wm0
theorem G70_ok : GlobOk Tryz.prog G70 := G69_ok.add ⟨Tryz.f105, Tryz.func105, by kernel_rfl, by kernel_rfl⟩ wrz
def wbr : Nat → Option LoopSpec
  | _ => none
theorem wr7 : vad Tryz.prog 231 wm2 :=
  var G70_ok follows (Tryz.f231.body.getD .skip) Tryz.func231 (by kernel_rfl) fun p q => ⟨wbr, (n28n_p _ _).p.map _, by rw [wda]; kernel_rfl, vac (ids := []) (by kernel_rfl) (by kernel_rfl) trivial⟩
def G71 : Glob := G70.add 231 wm2
theorem G71_ok : GlobOk Tryz.prog G71 := G70_ok.add ⟨Tryz.f231, Tryz.func231, by kernel_rfl, by kernel_rfl⟩ wr7
def vsq : q0T → List AV := fun x => [.lst tRange x.1, .lst tRange x.2.1, .bool x.2.2.1, .i x.2.2.2]
def vty : q0T → St := fun x => []
def vwh : Nat → Option LoopSpec
  | 0 => some (lpS [0, 1, 4, 5] [] [.lst tRange, .lst tRange, .bool, .i] [] vkt (fun p q => (p.1, p.2.1, p.2.2.1, p.2.2.2.1)) (fun k => (Sum.elim (onE (exZ .ret vsq vty) k) (onE (exZ (.exit 0) vsq vty) k))))
  | 2000006 => some ⟨[0, 2, 4, 6, 8, 10, 12, 14, 16, 18], [], fun _ _ _ => none⟩
  | _ => none
theorem wjv : LpAt G71 ⟨0, 27, vwh⟩ Tryz.f168 0 :=
  vao rfl (fun x => (n29n_bp0 x).p) vsq vty (Sum.elim ((exZ .ret vsq vty)) ((exZ (.exit 0) vsq vty))) (fun _ _ => ⟨rfl, rfl⟩) (fun z => by rcases z with z | z <;> (intro h; cases h)) (fun k z => by rcases z with z | z <;> rfl) (fun x => by kernel_rfl)
theorem wr3 : vad Tryz.prog 168 wn4 :=
  var G71_ok follows (Tryz.f168.body.getD .skip) Tryz.func168 (by kernel_rfl) fun p q => ⟨vwh, (n29n_p _ _).p.map _, by rw [wdh]; kernel_rfl, vac (ids := [0]) (by kernel_rfl) (by kernel_rfl) ⟨wjv, trivial⟩⟩
def G72 : Glob := G71.add 168 wn4
theorem G72_ok : GlobOk Tryz.prog G72 := G71_ok.add ⟨Tryz.f168, Tryz.func168, by kernel_rfl, by kernel_rfl⟩ wr3
def wbw : Nat → Option LoopSpec
  | _ => none
theorem wtt : vad Tryz.prog 232 wmv :=
  var G72_ok follows (Tryz.f232.body.getD .skip) Tryz.func232 (by kernel_rfl) fun p q => ⟨wbw, (n34n_p _ _).p.map _, by rw [wds]; kernel_rfl, vac (ids := []) (by kernel_rfl) (by kernel_rfl) trivial⟩
def G73 : Glob := G72.add 232 wmv
theorem G73_ok : GlobOk Tryz.prog G73 := G72_ok.add ⟨Tryz.f232, Tryz.func232, by kernel_rfl, by kernel_rfl⟩ wtt
def vt3 : q22T → List AV := fun x => [.lst tWrite x.1, .lst tWrite x.2.1, .bool x.2.2.1, .i x.2.2.2]
def vq8 : q22T → St := fun x => []
def vyn : Nat → Option LoopSpec
  | 0 => some (lpS [0, 1, 4, 5] [] [.lst tWrite, .lst tWrite, .bool, .i] [] vj6 (fun p q => (p.1, p.2.1, p.2.2.1, p.2.2.2.1)) (fun k => (Sum.elim (onE (exZ .ret vt3 vq8) k) (onE (exZ (.exit 0) vt3 vq8) k))))
  | 2000006 => some ⟨[0, 2, 4, 6, 8, 10, 12, 14, 16, 18], [], fun _ _ _ => none⟩
  | _ => none
theorem wlf : LpAt G73 ⟨0, 27, vyn⟩ Tryz.f169 0 :=
  vao rfl (fun x => (n35n_bp0 x).p) vt3 vq8 (Sum.elim ((exZ .ret vt3 vq8)) ((exZ (.exit 0) vt3 vq8))) (fun _ _ => ⟨rfl, rfl⟩) (fun z => by rcases z with z | z <;> (intro h; cases h)) (fun k z => by rcases z with z | z <;> rfl) (fun x => by kernel_rfl)
theorem wtr : vad Tryz.prog 169 wmy :=
  var G73_ok follows (Tryz.f169.body.getD .skip) Tryz.func169 (by kernel_rfl) fun p q => ⟨vyn, (n35n_p _ _).p.map _, by rw [wgw]; kernel_rfl, vac (ids := [0]) (by kernel_rfl) (by kernel_rfl) ⟨wlf, trivial⟩⟩
def G74 : Glob := G73.add 169 wmy
theorem G74_ok : GlobOk Tryz.prog G74 := G73_ok.add ⟨Tryz.f169, Tryz.func169, by kernel_rfl, by kernel_rfl⟩ wtr
def wb6 : Nat → Option LoopSpec
  | _ => none
theorem wsh : vad Tryz.prog 78 wnp :=
  var G74_ok follows (Tryz.f78.body.getD .skip) Tryz.func78 (by kernel_rfl) fun p q => ⟨wb6, (n30n_p _ _).p.map _, by rw [wfy]; kernel_rfl, vac (ids := []) (by kernel_rfl) (by kernel_rfl) trivial⟩
def G75 : Glob := G74.add 78 wnp
theorem G75_ok : GlobOk Tryz.prog G75 := G74_ok.add ⟨Tryz.f78, Tryz.func78, by kernel_rfl, by kernel_rfl⟩ wsh
def vsj : q4T → List AV := fun x => [.lst tTxn x.1, .lst tTxn x.2.1, .bool x.2.2.1, .i x.2.2.2]
def vtx : q4T → St := fun x => []
def vwi : Nat → Option LoopSpec
  | 0 => some (lpS [0, 1, 4, 5] [] [.lst tTxn, .lst tTxn, .bool, .i] [] vkv (fun p q => (p.1, p.2.1, p.2.2.1, p.2.2.2.1)) (fun k => (Sum.elim (onE (exZ .ret vsj vtx) k) (onE (exZ (.exit 0) vsj vtx) k))))
  | 2000006 => some ⟨[0, 2, 4, 6, 8, 10, 12, 14, 16, 18], [], fun _ _ _ => none⟩
  | _ => none
theorem wib : LpAt G75 ⟨0, 27, vwi⟩ Tryz.f91 0 :=
  vao rfl (fun x => (n31n_bp0 x).p) vsj vtx (Sum.elim ((exZ .ret vsj vtx)) ((exZ (.exit 0) vsj vtx))) (fun _ _ => ⟨rfl, rfl⟩) (fun z => by rcases z with z | z <;> (intro h; cases h)) (fun k z => by rcases z with z | z <;> rfl) (fun x => by kernel_rfl)
theorem wr5 : vad Tryz.prog 91 wog :=
  var G75_ok follows (Tryz.f91.body.getD .skip) Tryz.func91 (by kernel_rfl) fun p q => ⟨vwi, (n31n_p _ _).p.map _, by rw [wd4]; kernel_rfl, vac (ids := [0]) (by kernel_rfl) (by kernel_rfl) ⟨wib, trivial⟩⟩
def G76 : Glob := G75.add 91 wog
theorem G76_ok : GlobOk Tryz.prog G76 := G75_ok.add ⟨Tryz.f91, Tryz.func91, by kernel_rfl, by kernel_rfl⟩ wr5
def wam : Nat → Option LoopSpec
  | _ => none
theorem wrj : vad Tryz.prog 32 wno :=
  var G76_ok follows (Tryz.f32.body.getD .skip) Tryz.func32 (by kernel_rfl) fun p q => ⟨wam, (n24n_p _ _).p.map _, by rw [v8h]; kernel_rfl, vac (ids := []) (by kernel_rfl) (by kernel_rfl) trivial⟩
def G77 : Glob := G76.add 32 wno
theorem G77_ok : GlobOk Tryz.prog G77 := G76_ok.add ⟨Tryz.f32, Tryz.func32, by kernel_rfl, by kernel_rfl⟩ wrj
def wa7 : Nat → Option LoopSpec
  | _ => none
theorem wry : vad Tryz.prog 20 wob :=
  var G77_ok follows (Tryz.f20.body.getD .skip) Tryz.func20 (by kernel_rfl) fun p q => ⟨wa7, (n25n_p _ _).p.map _, by rw [v7k]; kernel_rfl, vac (ids := []) (by kernel_rfl) (by kernel_rfl) trivial⟩
def G78 : Glob := G77.add 20 wob
theorem G78_ok : GlobOk Tryz.prog G78 := G77_ok.add ⟨Tryz.f20, Tryz.func20, by kernel_rfl, by kernel_rfl⟩ wry
def v97 : Nat → Option LoopSpec
  | _ => none
theorem wsv : vad Tryz.prog 92 wmj :=
  var G78_ok follows (Tryz.f92.body.getD .skip) Tryz.func92 (by kernel_rfl) fun p q => ⟨v97, (n26n_p _ _).p.map _, by rw [wd9]; kernel_rfl, vac (ids := []) (by kernel_rfl) (by kernel_rfl) trivial⟩
def G79 : Glob := G78.add 92 wmj
theorem G79_ok : GlobOk Tryz.prog G79 := G78_ok.add ⟨Tryz.f92, Tryz.func92, by kernel_rfl, by kernel_rfl⟩ wsv
def vt5 : q0T → List AV := fun x => [.lst tRange x.1, .lst tRange x.2.1, .bool x.2.2.1, .i x.2.2.2]
def vri : q0T → St := fun x => []
def vyr : Nat → Option LoopSpec
  | 0 => some (lpS [0, 1, 4, 5] [] [.lst tRange, .lst tRange, .bool, .i] [] vkd (fun p q => (p.1, p.2.1, p.2.2.1, p.2.2.2.1)) (fun k => (Sum.elim (onE (exZ .ret vt5 vri) k) (onE (exZ (.exit 0) vt5 vri) k))))
  | 2000006 => some ⟨[0, 2, 4, 6, 8, 10, 12, 14, 16, 18], [], fun _ _ _ => none⟩
  | _ => none
theorem wiu : LpAt G79 ⟨0, 27, vyr⟩ Tryz.f21 0 :=
  vao rfl (fun x => (n27n_bp0 x).p) vt5 vri (Sum.elim ((exZ .ret vt5 vri)) ((exZ (.exit 0) vt5 vri))) (fun _ _ => ⟨rfl, rfl⟩) (fun z => by rcases z with z | z <;> (intro h; cases h)) (fun k z => by rcases z with z | z <;> rfl) (fun x => by kernel_rfl)
theorem wri : vad Tryz.prog 21 wnd :=
  var G79_ok follows (Tryz.f21.body.getD .skip) Tryz.func21 (by kernel_rfl) fun p q => ⟨vyr, (n27n_p _ _).p.map _, by rw [wco]; kernel_rfl, vac (ids := [0]) (by kernel_rfl) (by kernel_rfl) ⟨wiu, trivial⟩⟩
def G80 : Glob := G79.add 21 wnd
theorem G80_ok : GlobOk Tryz.prog G80 := G79_ok.add ⟨Tryz.f21, Tryz.func21, by kernel_rfl, by kernel_rfl⟩ wri
def v4z : (Int × ByteArray) → List AV := fun x => [.i x.1, .str x.2]
def v3g : (Int × ByteArray) → St := fun x => []
def vwz : Nat → Option LoopSpec
  | 0 => some (lpS [0, 3] [] [.i, .str] [] vmy (fun p q => (p.1, p.2.1)) (fun k => (onE (exZ (.exit 0) v4z v3g) k)))
  | _ => none
theorem wl0 : LpAt G80 ⟨0, 20, vwz⟩ Tryz.f94 0 :=
  vao rfl (fun x => (n47n_bp0 x).p) v4z v3g (exZ (.exit 0) v4z v3g) (fun _ _ => ⟨rfl, rfl⟩) (fun z => by (intro h; cases h)) (fun _ _ => rfl) (fun x => by kernel_rfl)
theorem wrr : vad Tryz.prog 94 wna :=
  var G80_ok follows (Tryz.f94.body.getD .skip) Tryz.func94 (by kernel_rfl) fun p q => ⟨vwz, (n47n_p _).p.map _, by rw [wdu]; kernel_rfl, vac (ids := [0]) (by kernel_rfl) (by kernel_rfl) ⟨wl0, trivial⟩⟩
def G81 : Glob := G80.add 94 wna
theorem G81_ok : GlobOk Tryz.prog G81 := G80_ok.add ⟨Tryz.f94, Tryz.func94, by kernel_rfl, by kernel_rfl⟩ wrr
def v4u : (Int × Int × (List vaa)) → List AV := fun x => [.own 0, .i x.1, .i x.2.1]
def v3t : (Int × Int × (List vaa)) → St := fun x => [.arr tVersion x.2.2]
def vwp : Nat → Option LoopSpec
  | 0 => some (lpS [0, 1, 5] [] [.own 0, .i, .i] [.arr tVersion] vlg (fun p q => (p.2.1, p.2.2.1, q.1)) (fun k => (onE (exZ (.exit 0) v4u v3t) k)))
  | _ => none
theorem wjg : LpAt G81 ⟨1, 45, vwp⟩ Tryz.f106 0 :=
  vao rfl (fun x => (n49n_bp0 x).p) v4u v3t (exZ (.exit 0) v4u v3t) (fun _ _ => ⟨rfl, rfl⟩) (fun z => by (intro h; cases h)) (fun _ _ => rfl) (fun x => by kernel_rfl)
theorem vno : vad Tryz.prog 106 vfh :=
  var G81_ok follows (Tryz.f106.body.getD .skip) Tryz.func106 (by kernel_rfl) fun p q => ⟨vwp, (n49n_p _ _).p.map _, by rw [wej]; kernel_rfl, vac (ids := [0]) (by kernel_rfl) (by kernel_rfl) ⟨wjg, trivial⟩⟩
def G82 : Glob := G81.add 106 vfh
theorem G82_ok : GlobOk Tryz.prog G82 := G81_ok.add ⟨Tryz.f106, Tryz.func106, by kernel_rfl, by kernel_rfl⟩ vno
def v37 : (Int × Int × (List vab)) → List AV := fun x => [.own 0, .i x.1, .i x.2.1]
def v42 : (Int × Int × (List vab)) → St := fun x => [.arr tRange x.2.2]
def vx8 : Nat → Option LoopSpec
  | 0 => some (lpS [0, 1, 5] [] [.own 0, .i, .i] [.arr tRange] vm7 (fun p q => (p.2.1, p.2.2.1, q.1)) (fun k => (onE (exZ (.exit 0) v37 v42) k)))
  | _ => none
theorem wli : LpAt G82 ⟨1, 29, vx8⟩ Tryz.f170 0 :=
  vao rfl (fun x => (n46n_bp0 x).p) v37 v42 (exZ (.exit 0) v37 v42) (fun _ _ => ⟨rfl, rfl⟩) (fun z => by (intro h; cases h)) (fun _ _ => rfl) (fun x => by kernel_rfl)
theorem vpu : vad Tryz.prog 170 vhn :=
  var G82_ok follows (Tryz.f170.body.getD .skip) Tryz.func170 (by kernel_rfl) fun p q => ⟨vx8, (n46n_p _ _).p.map _, by rw [wgh]; kernel_rfl, vac (ids := [0]) (by kernel_rfl) (by kernel_rfl) ⟨wli, trivial⟩⟩
def G83 : Glob := G82.add 170 vhn
theorem G83_ok : GlobOk Tryz.prog G83 := G82_ok.add ⟨Tryz.f170, Tryz.func170, by kernel_rfl, by kernel_rfl⟩ vpu
def v55 : (Int × Int × (List vaf)) → List AV := fun x => [.own 0, .i x.1, .i x.2.1]
def v52 : (Int × Int × (List vaf)) → St := fun x => [.arr tWrite x.2.2]
def vyf : Nat → Option LoopSpec
  | 0 => some (lpS [0, 1, 5] [] [.own 0, .i, .i] [.arr tWrite] vms (fun p q => (p.2.1, p.2.2.1, q.1)) (fun k => (onE (exZ (.exit 0) v55 v52) k)))
  | _ => none
theorem wix : LpAt G83 ⟨1, 38, vyf⟩ Tryz.f171 0 :=
  vao rfl (fun x => (n50n_bp0 x).p) v55 v52 (exZ (.exit 0) v55 v52) (fun _ _ => ⟨rfl, rfl⟩) (fun z => by (intro h; cases h)) (fun _ _ => rfl) (fun x => by kernel_rfl)
theorem vpk : vad Tryz.prog 171 vhc :=
  var G83_ok follows (Tryz.f171.body.getD .skip) Tryz.func171 (by kernel_rfl) fun p q => ⟨vyf, (n50n_p _ _).p.map _, by rw [wcx]; kernel_rfl, vac (ids := [0]) (by kernel_rfl) (by kernel_rfl) ⟨wix, trivial⟩⟩
def G84 : Glob := G83.add 171 vhc
theorem G84_ok : GlobOk Tryz.prog G84 := G83_ok.add ⟨Tryz.f171, Tryz.func171, by kernel_rfl, by kernel_rfl⟩ vpk
def vgq : (Int × Int × (List dTxn)) → List AV := fun x => [.own 0, .i x.1, .i x.2.1]
def vg6 : (Int × Int × (List dTxn)) → St := fun x => [.dep tTxn x.2.2 0]
def vgd : (Int × Int × (List dTxn)) → List AV := fun x => [.own 0, .i x.1, .i x.2.1]
def vf8 : (Int × Int × (List dTxn)) → St := fun x => [.dep tTxn x.2.2 0]
def vgb : (Int × Int × (List dTxn)) → List AV := fun x => [.own 0, .i x.1, .i x.2.1]
def vgo : (Int × Int × (List dTxn)) → St := fun x => [.dep tTxn x.2.2 0]
def vgx : (Int × Int × (List dTxn)) → List AV := fun x => [.own 0, .i x.1, .i x.2.1]
def vg2 : (Int × Int × (List dTxn)) → St := fun x => [.dep tTxn x.2.2 0]
def vgp : (Int × Int × (List dTxn)) → List AV := fun x => [.own 0, .i x.1, .i x.2.1]
def vgn : (Int × Int × (List dTxn)) → St := fun x => [.dep tTxn x.2.2 0]
def vgr : (Int × Int × (List dTxn)) → List AV := fun x => [.own 0, .i x.1, .i x.2.1]
def vgm : (Int × Int × (List dTxn)) → St := fun x => [.dep tTxn x.2.2 0]
def vgj : (Int × Int × (List dTxn)) → List AV := fun x => [.own 0, .i x.1, .i x.2.1]
def vha : (Int × Int × (List dTxn)) → St := fun x => [.dep tTxn x.2.2 0]
def v5n : (Int × Int × (List dTxn)) → List AV := fun x => [.own 0, .i x.1, .i x.2.1]
def v48 : (Int × Int × (List dTxn)) → St := fun x => [.dep tTxn x.2.2 0]
def vcv : Nat → Option LoopSpec
  | 5000003 => some (ctS [0, 1, 5] [] [.own 0, .i, .i] [.dep tTxn 0] vdr (fun p q => (p.2.1, p.2.2.1, q.1)) (fun k => (onE (exZ .norm vgq vg6) k)))
  | 5000017 => some (ctS [0, 1, 5] [] [.own 0, .i, .i] [.dep tTxn 0] vdi (fun p q => (p.2.1, p.2.2.1, q.1)) (fun k => (onE (exZ .norm vgd vf8) k)))
  | 5000015 => some (ctS [0, 1, 5] [] [.own 0, .i, .i] [.dep tTxn 0] vdo (fun p q => (p.2.1, p.2.2.1, q.1)) (fun k => (onE (exZ .norm vgb vgo) k)))
  | 5000011 => some (ctS [0, 1, 5] [] [.own 0, .i, .i] [.dep tTxn 0] vdj (fun p q => (p.2.1, p.2.2.1, q.1)) (fun k => (onE (exZ .norm vgx vg2) k)))
  | 5000009 => some (ctS [0, 1, 5] [] [.own 0, .i, .i] [.dep tTxn 0] vdv (fun p q => (p.2.1, p.2.2.1, q.1)) (fun k => (onE (exZ .norm vgp vgn) k)))
  | 5000007 => some (ctS [0, 1, 5] [] [.own 0, .i, .i] [.dep tTxn 0] vdn (fun p q => (p.2.1, p.2.2.1, q.1)) (fun k => (onE (exZ .norm vgr vgm) k)))
  | 5000005 => some (ctS [0, 1, 5] [] [.own 0, .i, .i] [.dep tTxn 0] vdt (fun p q => (p.2.1, p.2.2.1, q.1)) (fun k => (onE (exZ .norm vgj vha) k)))
  | 0 => some (lpS [0, 1, 5] [] [.own 0, .i, .i] [.dep tTxn 0] vjb (fun p q => (p.2.1, p.2.2.1, q.1)) (fun k => (onE (exZ (.exit 0) v5n v48) k)))
  | _ => none
theorem vum : CtAt G84 ⟨1, 72, vcv⟩ Tryz.f93 5000003 :=
  vei rfl (fun x => (n48n_jp5000003 x).p) vgq vg6 (exZ .norm vgq vg6) (fun _ _ => ⟨rfl, rfl⟩) (fun _ _ => rfl) (fun x => by kernel_rfl)
theorem vuq : CtAt G84 ⟨1, 72, vcv⟩ Tryz.f93 5000017 :=
  vei rfl (fun x => (n48n_jp5000017 x).p) vgd vf8 (exZ .norm vgd vf8) (fun _ _ => ⟨rfl, rfl⟩) (fun _ _ => rfl) (fun x => by kernel_rfl)
theorem vu9 : CtAt G84 ⟨1, 72, vcv⟩ Tryz.f93 5000015 :=
  vei rfl (fun x => (n48n_jp5000015 x).p) vgb vgo (exZ .norm vgb vgo) (fun _ _ => ⟨rfl, rfl⟩) (fun _ _ => rfl) (fun x => by kernel_rfl)
theorem vur : CtAt G84 ⟨1, 72, vcv⟩ Tryz.f93 5000011 :=
  vei rfl (fun x => (n48n_jp5000011 x).p) vgx vg2 (exZ .norm vgx vg2) (fun _ _ => ⟨rfl, rfl⟩) (fun _ _ => rfl) (fun x => by kernel_rfl)
theorem vus : CtAt G84 ⟨1, 72, vcv⟩ Tryz.f93 5000009 :=
  vei rfl (fun x => (n48n_jp5000009 x).p) vgp vgn (exZ .norm vgp vgn) (fun _ _ => ⟨rfl, rfl⟩) (fun _ _ => rfl) (fun x => by kernel_rfl)
theorem vu3 : CtAt G84 ⟨1, 72, vcv⟩ Tryz.f93 5000007 :=
  vei rfl (fun x => (n48n_jp5000007 x).p) vgr vgm (exZ .norm vgr vgm) (fun _ _ => ⟨rfl, rfl⟩) (fun _ _ => rfl) (fun x => by kernel_rfl)
theorem vut : CtAt G84 ⟨1, 72, vcv⟩ Tryz.f93 5000005 :=
  vei rfl (fun x => (n48n_jp5000005 x).p) vgj vha (exZ .norm vgj vha) (fun _ _ => ⟨rfl, rfl⟩) (fun _ _ => rfl) (fun x => by kernel_rfl)
theorem wip : LpAt G84 ⟨1, 72, vcv⟩ Tryz.f93 0 :=
  vao rfl (fun x => (n48n_bp0 x).p) v5n v48 (exZ (.exit 0) v5n v48) (fun _ _ => ⟨rfl, rfl⟩) (fun z => by (intro h; cases h)) (fun _ _ => rfl) (fun x => by kernel_rfl)
theorem vsi : vad Tryz.prog 93 vi6 :=
  var G84_ok follows (Tryz.f93.body.getD .skip) Tryz.func93 (by kernel_rfl) fun p q => ⟨vcv, (n48n_p _ _).p.map _, by rw [wgv]; kernel_rfl, vac (ids := [5000003, 5000017, 5000015, 5000011, 5000009, 5000007, 5000005, 0]) (by kernel_rfl) (by kernel_rfl) ⟨vum, ⟨vuq, ⟨vu9, ⟨vur, ⟨vus, ⟨vu3, ⟨vut, ⟨wip, trivial⟩⟩⟩⟩⟩⟩⟩⟩⟩
def G85 : Glob := G84.add 93 vi6
theorem G85_ok : GlobOk Tryz.prog G85 := G84_ok.add ⟨Tryz.f93, Tryz.func93, by kernel_rfl, by kernel_rfl⟩ vsi
def wa6 : Nat → Option LoopSpec
  | _ => none
theorem vsm : vad Tryz.prog 33 vj4 :=
  var G85_ok follows (Tryz.f33.body.getD .skip) Tryz.func33 (by kernel_rfl) fun p q => ⟨wa6, (n43n_p _ _ _ _ _ _).p.map _, by rw [wdl]; kernel_rfl, vac (ids := []) (by kernel_rfl) (by kernel_rfl) trivial⟩
def G86 : Glob := G85.add 33 vj4
theorem G86_ok : GlobOk Tryz.prog G86 := G85_ok.add ⟨Tryz.f33, Tryz.func33, by kernel_rfl, by kernel_rfl⟩ vsm
def wb1 : Nat → Option LoopSpec
  | _ => none
theorem vpi : vad Tryz.prog 22 vhp :=
  var G86_ok follows (Tryz.f22.body.getD .skip) Tryz.func22 (by kernel_rfl) fun p q => ⟨wb1, (n44n_p _ _ _ _ _ _ _).p.map _, by rw [wew]; kernel_rfl, vac (ids := []) (by kernel_rfl) (by kernel_rfl) trivial⟩
def G87 : Glob := G86.add 22 vhp
theorem G87_ok : GlobOk Tryz.prog G87 := G86_ok.add ⟨Tryz.f22, Tryz.func22, by kernel_rfl, by kernel_rfl⟩ vpi
def v5v : (Int × Int × (List vab)) → List AV := fun x => [.own 0, .i x.1, .i x.2.1]
def v44 : (Int × Int × (List vab)) → St := fun x => [.arr tRange x.2.2]
def vwj : Nat → Option LoopSpec
  | 0 => some (lpS [0, 1, 5] [] [.own 0, .i, .i] [.arr tRange] vm2 (fun p q => (p.2.1, p.2.2.1, q.1)) (fun k => (onE (exZ (.exit 0) v5v v44) k)))
  | _ => none
theorem wkp : LpAt G87 ⟨1, 29, vwj⟩ Tryz.f23 0 :=
  vao rfl (fun x => (n45n_bp0 x).p) v5v v44 (exZ (.exit 0) v5v v44) (fun _ _ => ⟨rfl, rfl⟩) (fun z => by (intro h; cases h)) (fun _ _ => rfl) (fun x => by kernel_rfl)
theorem vqv : vad Tryz.prog 23 viz :=
  var G87_ok follows (Tryz.f23.body.getD .skip) Tryz.func23 (by kernel_rfl) fun p q => ⟨vwj, (n45n_p _ _).p.map _, by rw [wd6]; kernel_rfl, vac (ids := [0]) (by kernel_rfl) (by kernel_rfl) ⟨wkp, trivial⟩⟩
def G88 : Glob := G87.add 23 viz
theorem G88_ok : GlobOk Tryz.prog G88 := G87_ok.add ⟨Tryz.f23, Tryz.func23, by kernel_rfl, by kernel_rfl⟩ vqv
def vti : q21T → List AV := fun x => [.lst tVersion x.1, .i x.2.1, .i x.2.2.1, .i x.2.2.2]
def vsg : q21T → St := fun x => []
def vvx : Nat → Option LoopSpec
  | 0 => some (lpS [0, 1, 4, 5] [] [.lst tVersion, .i, .i, .i] [] vjw (fun p q => (p.1, p.2.1, p.2.2.1, p.2.2.2.1)) (fun k => (Sum.elim (onE (exZ .ret vti vsg) k) (onE (exZ (.exit 0) vti vsg) k))))
  | 2000004 => some ⟨[0, 2, 4, 6, 8, 10, 13, 14], [], fun _ _ _ => none⟩
  | 2000007 => some ⟨[0, 2, 4, 6, 8, 10, 13, 14], [], fun _ _ _ => none⟩
  | _ => none
theorem wkk : LpAt G88 ⟨0, 53, vvx⟩ Tryz.f107 0 :=
  vao rfl (fun x => (n41n_bp0 x).p) vti vsg (Sum.elim ((exZ .ret vti vsg)) ((exZ (.exit 0) vti vsg))) (fun _ _ => ⟨rfl, rfl⟩) (fun z => by rcases z with z | z <;> (intro h; cases h)) (fun k z => by rcases z with z | z <;> rfl) (fun x => by kernel_rfl)
theorem wqs : vad Tryz.prog 107 wni :=
  var G88_ok follows (Tryz.f107.body.getD .skip) Tryz.func107 (by kernel_rfl) fun p q => ⟨vvx, (n41n_p _ _).p.map _, by rw [wdo]; kernel_rfl, vac (ids := [0]) (by kernel_rfl) (by kernel_rfl) ⟨wkk, trivial⟩⟩
def G89 : Glob := G88.add 107 wni
theorem G89_ok : GlobOk Tryz.prog G89 := G88_ok.add ⟨Tryz.f107, Tryz.func107, by kernel_rfl, by kernel_rfl⟩ wqs
def vs9 : q3T → List AV := fun x => [.lst tRange x.1, .i x.2.1, .i x.2.2.1, .i x.2.2.2]
def vt8 : q3T → St := fun x => []
def vv3 : Nat → Option LoopSpec
  | 0 => some (lpS [0, 1, 4, 5] [] [.lst tRange, .i, .i, .i] [] vkc (fun p q => (p.1, p.2.1, p.2.2.1, p.2.2.2.1)) (fun k => (Sum.elim (onE (exZ .ret vs9 vt8) k) (onE (exZ (.exit 0) vs9 vt8) k))))
  | 2000004 => some ⟨[0, 2, 4, 6, 8, 10, 13, 14], [], fun _ _ _ => none⟩
  | 2000007 => some ⟨[0, 2, 4, 6, 8, 10, 13, 14], [], fun _ _ _ => none⟩
  | _ => none
theorem whu : LpAt G89 ⟨0, 33, vv3⟩ Tryz.f172 0 :=
  vao rfl (fun x => (n39n_bp0 x).p) vs9 vt8 (Sum.elim ((exZ .ret vs9 vt8)) ((exZ (.exit 0) vs9 vt8))) (fun _ _ => ⟨rfl, rfl⟩) (fun z => by rcases z with z | z <;> (intro h; cases h)) (fun k z => by rcases z with z | z <;> rfl) (fun x => by kernel_rfl)
theorem wtq : vad Tryz.prog 172 wol :=
  var G89_ok follows (Tryz.f172.body.getD .skip) Tryz.func172 (by kernel_rfl) fun p q => ⟨vv3, (n39n_p _ _).p.map _, by rw [wdi]; kernel_rfl, vac (ids := [0]) (by kernel_rfl) (by kernel_rfl) ⟨whu, trivial⟩⟩
def G90 : Glob := G89.add 172 wol
theorem G90_ok : GlobOk Tryz.prog G90 := G89_ok.add ⟨Tryz.f172, Tryz.func172, by kernel_rfl, by kernel_rfl⟩ wtq
def vtq : q26T → List AV := fun x => [.lst tWrite x.1, .i x.2.1, .i x.2.2.1, .i x.2.2.2]
def vtl : q26T → St := fun x => []
def vwn : Nat → Option LoopSpec
  | 0 => some (lpS [0, 1, 4, 5] [] [.lst tWrite, .i, .i, .i] [] vjq (fun p q => (p.1, p.2.1, p.2.2.1, p.2.2.2.1)) (fun k => (Sum.elim (onE (exZ .ret vtq vtl) k) (onE (exZ (.exit 0) vtq vtl) k))))
  | 2000004 => some ⟨[0, 2, 4, 6, 8, 10, 13, 14], [], fun _ _ _ => none⟩
  | 2000007 => some ⟨[0, 2, 4, 6, 8, 10, 13, 14], [], fun _ _ _ => none⟩
  | _ => none
theorem wjf : LpAt G90 ⟨0, 44, vwn⟩ Tryz.f173 0 :=
  vao rfl (fun x => (n42n_bp0 x).p) vtq vtl (Sum.elim ((exZ .ret vtq vtl)) ((exZ (.exit 0) vtq vtl))) (fun _ _ => ⟨rfl, rfl⟩) (fun z => by rcases z with z | z <;> (intro h; cases h)) (fun k z => by rcases z with z | z <;> rfl) (fun x => by kernel_rfl)
theorem wsc : vad Tryz.prog 173 wm6 :=
  var G90_ok follows (Tryz.f173.body.getD .skip) Tryz.func173 (by kernel_rfl) fun p q => ⟨vwn, (n42n_p _ _).p.map _, by rw [wfb]; kernel_rfl, vac (ids := [0]) (by kernel_rfl) (by kernel_rfl) ⟨wjf, trivial⟩⟩
def G91 : Glob := G90.add 173 wm6
theorem G91_ok : GlobOk Tryz.prog G91 := G90_ok.add ⟨Tryz.f173, Tryz.func173, by kernel_rfl, by kernel_rfl⟩ wsc
def vrn : q8T → List AV := fun x => [.lst tTxn x.1, .i x.2.1, .i x.2.2.1, .i x.2.2.2]
def vuf : q8T → St := fun x => []
def vxc : Nat → Option LoopSpec
  | 0 => some (lpS [0, 1, 4, 5] [] [.lst tTxn, .i, .i, .i] [] vkr (fun p q => (p.1, p.2.1, p.2.2.1, p.2.2.2.1)) (fun k => (Sum.elim (onE (exZ .ret vrn vuf) k) (onE (exZ (.exit 0) vrn vuf) k))))
  | 2000025 => some ⟨[0, 2, 4, 6, 8, 10, 13, 14], [], fun _ _ _ => none⟩
  | _ => none
theorem wh4 : LpAt G91 ⟨0, 88, vxc⟩ Tryz.f95 0 :=
  vao rfl (fun x => (n40n_bp0 x).p) vrn vuf (Sum.elim ((exZ .ret vrn vuf)) ((exZ (.exit 0) vrn vuf))) (fun _ _ => ⟨rfl, rfl⟩) (fun z => by rcases z with z | z <;> (intro h; cases h)) (fun k z => by rcases z with z | z <;> rfl) (fun x => by kernel_rfl)
theorem wqp : vad Tryz.prog 95 wmc :=
  var G91_ok follows (Tryz.f95.body.getD .skip) Tryz.func95 (by kernel_rfl) fun p q => ⟨vxc, (n40n_p _ _).p.map _, by rw [wer]; kernel_rfl, vac (ids := [0]) (by kernel_rfl) (by kernel_rfl) ⟨wh4, trivial⟩⟩
def G92 : Glob := G91.add 95 wmc
theorem G92_ok : GlobOk Tryz.prog G92 := G91_ok.add ⟨Tryz.f95, Tryz.func95, by kernel_rfl, by kernel_rfl⟩ wqp
def v98 : Nat → Option LoopSpec
  | _ => none
theorem wqw : vad Tryz.prog 34 wnz :=
  var G92_ok follows (Tryz.f34.body.getD .skip) Tryz.func34 (by kernel_rfl) fun p q => ⟨v98, (n36n_p _ _).p.map _, by rw [wgl]; kernel_rfl, vac (ids := []) (by kernel_rfl) (by kernel_rfl) trivial⟩
def G93 : Glob := G92.add 34 wnz
theorem G93_ok : GlobOk Tryz.prog G93 := G92_ok.add ⟨Tryz.f34, Tryz.func34, by kernel_rfl, by kernel_rfl⟩ wqw
def wca : Nat → Option LoopSpec
  | _ => none
theorem wqm : vad Tryz.prog 24 wm5 :=
  var G93_ok follows (Tryz.f24.body.getD .skip) Tryz.func24 (by kernel_rfl) fun p q => ⟨wca, (n37n_p _ _).p.map _, by rw [whe]; kernel_rfl, vac (ids := []) (by kernel_rfl) (by kernel_rfl) trivial⟩
def G94 : Glob := G93.add 24 wm5
theorem G94_ok : GlobOk Tryz.prog G94 := G93_ok.add ⟨Tryz.f24, Tryz.func24, by kernel_rfl, by kernel_rfl⟩ wqm
def vsd : q3T → List AV := fun x => [.lst tRange x.1, .i x.2.1, .i x.2.2.1, .i x.2.2.2]
def vtp : q3T → St := fun x => []
def vxp : Nat → Option LoopSpec
  | 0 => some (lpS [0, 1, 4, 5] [] [.lst tRange, .i, .i, .i] [] vkz (fun p q => (p.1, p.2.1, p.2.2.1, p.2.2.2.1)) (fun k => (Sum.elim (onE (exZ .ret vsd vtp) k) (onE (exZ (.exit 0) vsd vtp) k))))
  | 2000004 => some ⟨[0, 2, 4, 6, 8, 10, 13, 14], [], fun _ _ _ => none⟩
  | 2000007 => some ⟨[0, 2, 4, 6, 8, 10, 13, 14], [], fun _ _ _ => none⟩
  | _ => none
theorem wii : LpAt G94 ⟨0, 33, vxp⟩ Tryz.f25 0 :=
  vao rfl (fun x => (n38n_bp0 x).p) vsd vtp (Sum.elim ((exZ .ret vsd vtp)) ((exZ (.exit 0) vsd vtp))) (fun _ _ => ⟨rfl, rfl⟩) (fun z => by rcases z with z | z <;> (intro h; cases h)) (fun k z => by rcases z with z | z <;> rfl) (fun x => by kernel_rfl)
theorem ws8 : vad Tryz.prog 25 wmn :=
  var G94_ok follows (Tryz.f25.body.getD .skip) Tryz.func25 (by kernel_rfl) fun p q => ⟨vxp, (n38n_p _ _).p.map _, by rw [wfh]; kernel_rfl, vac (ids := [0]) (by kernel_rfl) (by kernel_rfl) ⟨wii, trivial⟩⟩
def G95 : Glob := G94.add 25 wmn
theorem G95_ok : GlobOk Tryz.prog G95 := G94_ok.add ⟨Tryz.f25, Tryz.func25, by kernel_rfl, by kernel_rfl⟩ ws8
def vg0 : q30T → List AV := fun x => [.bool x.1, .bp 0 0, .own 1, .i x.2.1]
def vgg : q30T → St := fun x => [.box [.own 2, .own 3, .own 4, .i x.2.2.1, .i x.2.2.2.1, .own 5], .arr tRange x.2.2.2.2.1, .arr tVersion x.2.2.2.2.2.1, .dep tTxn x.2.2.2.2.2.2.1 0, .dep tTxn x.2.2.2.2.2.2.2.1 0, .dep tTxn x.2.2.2.2.2.2.2.2 0]
def vg5 : q41T → List AV := fun x => [.i x.1, .bp 0 0, .bp 1 0, .bool x.2.1, .bp 2 0, .own 3, .i x.2.2.1, .bp 4 0, .own 5]
def vge : q41T → St := fun x => let xh := x.2.2.2.2.2.2.2.2; let xhh := xh.2.2.2.2.2.2.2.2; [.box [.lst tVersion x.2.2.2.1, .lst tTxn x.2.2.2.2.1, .lst tTxn x.2.2.2.2.2.1, .i x.2.2.2.2.2.2.1, .i x.2.2.2.2.2.2.2.1, .lst tTxn xh.1], .box [.str xh.2.1, .str xh.2.2.1], .box [.own 6, .own 7, .own 8, .i xh.2.2.2.1, .i xh.2.2.2.2.1, .own 9], .arr tRange xh.2.2.2.2.2.1, .box [.own 10, .own 11, .own 12, .i xh.2.2.2.2.2.2.1, .i xh.2.2.2.2.2.2.2.1, .own 13], .arr tRange xhh.1, .arr tVersion xhh.2.1, .arr tTxn xhh.2.2.1, .arr tTxn xhh.2.2.2.1, .arr tTxn xhh.2.2.2.2.1, .arr tVersion xhh.2.2.2.2.2.1, .dep tTxn xhh.2.2.2.2.2.2.1 0, .dep tTxn xhh.2.2.2.2.2.2.2.1 0, .dep tTxn xhh.2.2.2.2.2.2.2.2 0]
def vj2 : q29T → Out × List AV × St := fun z => (.ret, [.dead, .dead, .dead, .bool z.1, .dead, .dead, .dead, .bp 0 0, .own 1], [.box [.own 2, .own 3, .own 4, .i z.2.1, .i z.2.2.1, .own 5], .arr tRange z.2.2.2.1, .arr tVersion z.2.2.2.2.1, .dep tTxn z.2.2.2.2.2.1 0, .dep tTxn z.2.2.2.2.2.2.1 0, .dep tTxn z.2.2.2.2.2.2.2 0])
def vg7 : q42T → List AV := fun x => [.i x.1, .bp 0 0, .bp 1 0, .bool x.2.1, .bp 2 0, .own 3, .i x.2.2.1, .bp 4 0, .bp 5 0, .own 6, .i x.2.2.2.1]
def vgt : q42T → St := fun x => let xh := x.2.2.2.2.2.2.2.2; let xhh := xh.2.2.2.2.2.2.2.2; let xhhh := xhh.2.2.2.2.2.2.2.2; [.box [.lst tVersion x.2.2.2.2.1, .lst tTxn x.2.2.2.2.2.1, .lst tTxn x.2.2.2.2.2.2.1, .i x.2.2.2.2.2.2.2.1, .i xh.1, .lst tTxn xh.2.1], .box [.str xh.2.2.1, .str xh.2.2.2.1], .box [.own 7, .own 8, .own 9, .i xh.2.2.2.2.1, .i xh.2.2.2.2.2.1, .own 10], .arr tRange xh.2.2.2.2.2.2.1, .box [.own 11, .own 12, .own 13, .i xh.2.2.2.2.2.2.2.1, .i xhh.1, .own 14], .box [.own 15, .own 16, .own 17, .i xhh.2.1, .i xhh.2.2.1, .own 18], .arr tRange xhh.2.2.2.1, .arr tVersion xhh.2.2.2.2.1, .arr tTxn xhh.2.2.2.2.2.1, .arr tTxn xhh.2.2.2.2.2.2.1, .arr tTxn xhh.2.2.2.2.2.2.2.1, .arr tVersion xhhh.1, .dep tTxn xhhh.2.1 0, .dep tTxn xhhh.2.2.1 0, .dep tTxn xhhh.2.2.2.1 0, .arr tVersion xhhh.2.2.2.2.1, .dep tTxn xhhh.2.2.2.2.2.1 0, .dep tTxn xhhh.2.2.2.2.2.2.1 0, .dep tTxn xhhh.2.2.2.2.2.2.2 0]
def vj7 : q41T → Out × List AV × St := fun z => let zh := z.2.2.2.2.2.2.2.2; let zhh := zh.2.2.2.2.2.2.2.2; (.ret, [.i z.1, .bp 0 0, .bp 1 0, .bool z.2.1, .bp 2 0, .own 3, .i z.2.2.1, .dead, .bp 4 0, .own 5, .dead], [.box [.lst tVersion z.2.2.2.1, .lst tTxn z.2.2.2.2.1, .lst tTxn z.2.2.2.2.2.1, .i z.2.2.2.2.2.2.1, .i z.2.2.2.2.2.2.2.1, .lst tTxn zh.1], .box [.str zh.2.1, .str zh.2.2.1], .box [.own 6, .own 7, .own 8, .i zh.2.2.2.1, .i zh.2.2.2.2.1, .own 9], .arr tRange zh.2.2.2.2.2.1, .box [.own 10, .own 11, .own 12, .i zh.2.2.2.2.2.2.1, .i zh.2.2.2.2.2.2.2.1, .own 13], .arr tRange zhh.1, .arr tVersion zhh.2.1, .arr tTxn zhh.2.2.1, .arr tTxn zhh.2.2.2.1, .arr tTxn zhh.2.2.2.2.1, .arr tVersion zhh.2.2.2.2.2.1, .dep tTxn zhh.2.2.2.2.2.2.1 0, .dep tTxn zhh.2.2.2.2.2.2.2.1 0, .dep tTxn zhh.2.2.2.2.2.2.2.2 0])
def vla : q29T → Out × List AV × St := fun z => (.ret, [.dead, .dead, .dead, .bool z.1, .dead, .dead, .dead, .dead, .bp 0 0, .own 1, .dead], [.box [.own 2, .own 3, .own 4, .i z.2.1, .i z.2.2.1, .own 5], .arr tRange z.2.2.2.1, .arr tVersion z.2.2.2.2.1, .dep tTxn z.2.2.2.2.2.1 0, .dep tTxn z.2.2.2.2.2.2.1 0, .dep tTxn z.2.2.2.2.2.2.2 0])
def vl9 : Nat → Option LoopSpec
  | 5000034 => some (ctS [6, 12, 13, 16] [] [.bool, .bp 0 0, .own 1, .i] [.box [.own 2, .own 3, .own 4, .i, .i, .own 5], .arr tRange, .arr tVersion, .dep tTxn 0, .dep tTxn 0, .dep tTxn 0] vcy (fun p q => (p.1, p.2.2.2.1, q.1.2.2.2.1, q.1.2.2.2.2.1, q.2.1, q.2.2.1, q.2.2.2.1, q.2.2.2.2.1, q.2.2.2.2.2.1)) (fun k => (onE (exZ .ret vg0 vgg) k)))
  | 5000019 => some (ctS [1, 3, 5, 6, 8, 9, 10, 12, 13] [] [.i, .bp 0 0, .bp 1 0, .bool, .bp 2 0, .own 3, .i, .bp 4 0, .own 5] [.box [.lst tVersion, .lst tTxn, .lst tTxn, .i, .i, .lst tTxn], .box [.str, .str], .box [.own 6, .own 7, .own 8, .i, .i, .own 9], .arr tRange, .box [.own 10, .own 11, .own 12, .i, .i, .own 13], .arr tRange, .arr tVersion, .arr tTxn, .arr tTxn, .arr tTxn, .arr tVersion, .dep tTxn 0, .dep tTxn 0, .dep tTxn 0] vcu (fun p q => (p.1, p.2.2.2.1, p.2.2.2.2.2.2.1, q.1.1, q.1.2.1, q.1.2.2.1, q.1.2.2.2.1, q.1.2.2.2.2.1, q.1.2.2.2.2.2.1, q.2.1.1, q.2.1.2.1, q.2.2.1.2.2.2.1, q.2.2.1.2.2.2.2.1, q.2.2.2.1, q.2.2.2.2.1.2.2.2.1, q.2.2.2.2.1.2.2.2.2.1, q.2.2.2.2.2.1, q.2.2.2.2.2.2.1, q.2.2.2.2.2.2.2.1, q.2.2.2.2.2.2.2.2.1, q.2.2.2.2.2.2.2.2.2.1, q.2.2.2.2.2.2.2.2.2.2.1, q.2.2.2.2.2.2.2.2.2.2.2.1, q.2.2.2.2.2.2.2.2.2.2.2.2.1, q.2.2.2.2.2.2.2.2.2.2.2.2.2.1)) (fun k => (Sum.elim (onE (exZ .ret vg5 vge) k) (onE vj2 k))))
  | 5000013 => some (ctS [1, 3, 5, 6, 8, 9, 10, 11, 12, 13, 14] [] [.i, .bp 0 0, .bp 1 0, .bool, .bp 2 0, .own 3, .i, .bp 4 0, .bp 5 0, .own 6, .i] [.box [.lst tVersion, .lst tTxn, .lst tTxn, .i, .i, .lst tTxn], .box [.str, .str], .box [.own 7, .own 8, .own 9, .i, .i, .own 10], .arr tRange, .box [.own 11, .own 12, .own 13, .i, .i, .own 14], .box [.own 15, .own 16, .own 17, .i, .i, .own 18], .arr tRange, .arr tVersion, .arr tTxn, .arr tTxn, .arr tTxn, .arr tVersion, .dep tTxn 0, .dep tTxn 0, .dep tTxn 0, .arr tVersion, .dep tTxn 0, .dep tTxn 0, .dep tTxn 0] vct (fun p q => (p.1, p.2.2.2.1, p.2.2.2.2.2.2.1, p.2.2.2.2.2.2.2.2.2.2.1, q.1.1, q.1.2.1, q.1.2.2.1, q.1.2.2.2.1, q.1.2.2.2.2.1, q.1.2.2.2.2.2.1, q.2.1.1, q.2.1.2.1, q.2.2.1.2.2.2.1, q.2.2.1.2.2.2.2.1, q.2.2.2.1, q.2.2.2.2.1.2.2.2.1, q.2.2.2.2.1.2.2.2.2.1, q.2.2.2.2.2.1.2.2.2.1, q.2.2.2.2.2.1.2.2.2.2.1, q.2.2.2.2.2.2.1, q.2.2.2.2.2.2.2.1, q.2.2.2.2.2.2.2.2.1, q.2.2.2.2.2.2.2.2.2.1, q.2.2.2.2.2.2.2.2.2.2.1, q.2.2.2.2.2.2.2.2.2.2.2.1, q.2.2.2.2.2.2.2.2.2.2.2.2.1, q.2.2.2.2.2.2.2.2.2.2.2.2.2.1, q.2.2.2.2.2.2.2.2.2.2.2.2.2.2.1, q.2.2.2.2.2.2.2.2.2.2.2.2.2.2.2.1, q.2.2.2.2.2.2.2.2.2.2.2.2.2.2.2.2.1, q.2.2.2.2.2.2.2.2.2.2.2.2.2.2.2.2.2.1, q.2.2.2.2.2.2.2.2.2.2.2.2.2.2.2.2.2.2.1)) (fun k => (Sum.elim (onE (exZ .ret vg7 vgt) k) (Sum.elim (onE vj7 k) (onE vla k)))))
  | _ => none
theorem vu7 : CtAt G95 ⟨0, 151, vl9⟩ Tryz.f4 5000034 :=
  vei rfl (fun x => (n23n_jp5000034 x).p) vg0 vgg (exZ .ret vg0 vgg) (fun _ _ => ⟨rfl, rfl⟩) (fun _ _ => rfl) (fun x => by kernel_rfl)
theorem vu0 : CtAt G95 ⟨0, 151, vl9⟩ Tryz.f4 5000019 :=
  vei rfl (fun x => (n23n_jp5000019 x).p) vg5 vge (Sum.elim ((exZ .ret vg5 vge)) (vj2)) (fun _ _ => ⟨rfl, rfl⟩) (fun k z => by rcases z with z | z <;> rfl) (fun x => by kernel_rfl)
theorem vuu : CtAt G95 ⟨0, 151, vl9⟩ Tryz.f4 5000013 :=
  vei rfl (fun x => (n23n_jp5000013 x).p) vg7 vgt (Sum.elim ((exZ .ret vg7 vgt)) (Sum.elim (vj7) (vla))) (fun _ _ => ⟨rfl, rfl⟩) (fun k z => by rcases z with z | z | z <;> rfl) (fun x => by kernel_rfl)
theorem wnx : vad Tryz.prog 4 whd :=
  var G95_ok follows (Tryz.f4.body.getD .skip) Tryz.func4 (by kernel_rfl) fun p q => ⟨vl9, (n23n_p _ _ _).p.map _, by rw [wfs]; kernel_rfl, vac (ids := [5000034, 5000019, 5000013]) (by kernel_rfl) (by kernel_rfl) ⟨vu7, ⟨vu0, ⟨vuu, trivial⟩⟩⟩⟩
def G96 : Glob := G95.add 4 whd
theorem wt3 : GlobOk Tryz.prog G96 := G95_ok.add ⟨Tryz.f4, Tryz.func4, by kernel_rfl, by kernel_rfl⟩ wnx
end
end Go.VE
