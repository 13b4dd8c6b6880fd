/- Loops told as recursions over what is left; written by gen.py. -/
import Derived.Test.YteolgjmeigifbaaGreatScanKeysN
import Derived.Test.YteolgjmeigifbaaGreatP1
namespace Go.VE
noncomputable section
set_option linter.unusedVariables false
set_option linter.unusedSimpArgs false
set_option maxRecDepth 100000
def vm8 (u0 : (List vaa)) (u2 : Int) : List vaa → Int → Nat → (((Int × Int × Int) ⊕ (Int × Int)) → Option Res) → Option Res
  | [], s1, i, k =>
    k (.inr (s1, (i : Int)))
  | y :: l, s1, i, k =>
    vxt y s1 (fun y1 =>
      bif (decide (y1 < (0 : Int))) then
        k (.inl (y1, (-1 : Int), (i : Int)))
      else
        vm8 u0 u2 l y1 (i + 1) k)
theorem wik {u0} {u2} (h0 : u0.length < 9223372036854775807) {K : (q21T ⊕ q21T) → Option Res} : ∀ (l : List vaa) (i : Nat) (s1 : Int) (n : Nat), u0.drop i = l → l.length < n → vae vkh n (u0, s1, u2, (i : Int)) K = vm8 u0 u2 l s1 i (Sum.elim (fun z => K (.inl (u0, z.1, z.2.1, z.2.2))) (fun z => K (.inr (u0, z.1, u2, z.2)))) := by
  intro l
  induction l with
  | nil =>
    intro i s1 n hd hn
    have hge := vax hd
    cases n with
    | zero => exact absurd hn (Nat.not_lt_zero _)
    | succ n => simp only [vae, vkh, vm8, hge, decide_false, cond_false, Sum.elim_inr, Sum.elim_inl]
  | cons y l ih =>
    intro i s1 n hd hn
    obtain ⟨hlt, hz, hd2, hw, hnn⟩ := vat hd h0
    have hy := van hd
    cases n with
    | zero => exact absurd hn (Nat.not_lt_zero _)
    | succ n =>
      have ih2 := fun (s1 : Int) => ih (i + 1) s1 n hd2 (Nat.lt_of_succ_lt_succ hn)
      simp only [vae, vkh, vm8, hlt, hz, decide_true, cond_true, and_self, if_true, hy, hw, hnn, Sum.elim_inl, Sum.elim_inr, ih2]
theorem wll {u0} {u2} (h0 : u0.length < 9223372036854775807) {K : (q21T ⊕ q21T) → Option Res} {s1 : Int} : vae vkh Fuel (u0, s1, u2, (0 : Int)) K = vm8 u0 u2 u0 s1 0 (Sum.elim (fun z => K (.inl (u0, z.1, z.2.1, z.2.2))) (fun z => K (.inr (u0, z.1, u2, z.2)))) :=
  wik h0 u0 0 s1 Fuel rfl (vav h0)
def vnq (u0 : (List vab)) (u2 : Int) : List vab → Int → Nat → (((Int × Int × Int) ⊕ (Int × Int)) → Option Res) → Option Res
  | [], s1, i, k =>
    k (.inr (s1, (i : Int)))
  | y :: l, s1, i, k =>
    vqo y s1 (fun y1 =>
      bif (decide (y1 < (0 : Int))) then
        k (.inl (y1, (-1 : Int), (i : Int)))
      else
        vnq u0 u2 l y1 (i + 1) k)
theorem wkt {u0} {u2} (h0 : u0.length < 9223372036854775807) {K : (q3T ⊕ q3T) → Option Res} : ∀ (l : List vab) (i : Nat) (s1 : Int) (n : Nat), u0.drop i = l → l.length < n → vae vky n (u0, s1, u2, (i : Int)) K = vnq u0 u2 l s1 i (Sum.elim (fun z => K (.inl (u0, z.1, z.2.1, z.2.2))) (fun z => K (.inr (u0, z.1, u2, z.2)))) := by
  intro l
  induction l with
  | nil =>
    intro i s1 n hd hn
    have hge := vax hd
    cases n with
    | zero => exact absurd hn (Nat.not_lt_zero _)
    | succ n => simp only [vae, vky, vnq, hge, decide_false, cond_false, Sum.elim_inr, Sum.elim_inl]
  | cons y l ih =>
    intro i s1 n hd hn
    obtain ⟨hlt, hz, hd2, hw, hnn⟩ := vat hd h0
    have hy := van hd
    cases n with
    | zero => exact absurd hn (Nat.not_lt_zero _)
    | succ n =>
      have ih2 := fun (s1 : Int) => ih (i + 1) s1 n hd2 (Nat.lt_of_succ_lt_succ hn)
      simp only [vae, vky, vnq, hlt, hz, decide_true, cond_true, and_self, if_true, hy, hw, hnn, Sum.elim_inl, Sum.elim_inr, ih2]
theorem wk2 {u0} {u2} (h0 : u0.length < 9223372036854775807) {K : (q3T ⊕ q3T) → Option Res} {s1 : Int} : vae vky Fuel (u0, s1, u2, (0 : Int)) K = vnq u0 u2 u0 s1 0 (Sum.elim (fun z => K (.inl (u0, z.1, z.2.1, z.2.2))) (fun z => K (.inr (u0, z.1, u2, z.2)))) :=
  wkt h0 u0 0 s1 Fuel rfl (vav h0)
def vmu (u0 : (List vaf)) (u2 : Int) : List vaf → Int → Nat → (((Int × Int × Int) ⊕ (Int × Int)) → Option Res) → Option Res
  | [], s1, i, k =>
    k (.inr (s1, (i : Int)))
  | y :: l, s1, i, k =>
    vwq y s1 (fun y1 =>
      bif (decide (y1 < (0 : Int))) then
        k (.inl (y1, (-1 : Int), (i : Int)))
      else
        vmu u0 u2 l y1 (i + 1) k)
theorem wj0 {u0} {u2} (h0 : u0.length < 9223372036854775807) {K : (q26T ⊕ q26T) → Option Res} : ∀ (l : List vaf) (i : Nat) (s1 : Int) (n : Nat), u0.drop i = l → l.length < n → vae vld n (u0, s1, u2, (i : Int)) K = vmu u0 u2 l s1 i (Sum.elim (fun z => K (.inl (u0, z.1, z.2.1, z.2.2))) (fun z => K (.inr (u0, z.1, u2, z.2)))) := by
  intro l
  induction l with
  | nil =>
    intro i s1 n hd hn
    have hge := vax hd
    cases n with
    | zero => exact absurd hn (Nat.not_lt_zero _)
    | succ n => simp only [vae, vld, vmu, hge, decide_false, cond_false, Sum.elim_inr, Sum.elim_inl]
  | cons y l ih =>
    intro i s1 n hd hn
    obtain ⟨hlt, hz, hd2, hw, hnn⟩ := vat hd h0
    have hy := van hd
    cases n with
    | zero => exact absurd hn (Nat.not_lt_zero _)
    | succ n =>
      have ih2 := fun (s1 : Int) => ih (i + 1) s1 n hd2 (Nat.lt_of_succ_lt_succ hn)
      simp only [vae, vld, vmu, hlt, hz, decide_true, cond_true, and_self, if_true, hy, hw, hnn, Sum.elim_inl, Sum.elim_inr, ih2]
theorem wlg {u0} {u2} (h0 : u0.length < 9223372036854775807) {K : (q26T ⊕ q26T) → Option Res} {s1 : Int} : vae vld Fuel (u0, s1, u2, (0 : Int)) K = vmu u0 u2 u0 s1 0 (Sum.elim (fun z => K (.inl (u0, z.1, z.2.1, z.2.2))) (fun z => K (.inr (u0, z.1, u2, z.2)))) :=
  wj0 h0 u0 0 s1 Fuel rfl (vav h0)
def vnp (u0 : (List dTxn)) (u2 : Int) : List dTxn → Int → Nat → (((Int × Int × Int) ⊕ (Int × Int)) → Option Res) → Option Res
  | [], s1, i, k =>
    k (.inr (s1, (i : Int)))
  | y :: l, s1, i, k =>
    vvs y s1 (fun y1 =>
      bif (decide (y1 < (0 : Int))) then
        k (.inl (y1, (-1 : Int), (i : Int)))
      else
        vnp u0 u2 l y1 (i + 1) k)
theorem wj5 {u0} {u2} (h0 : u0.length < 9223372036854775807) {K : (q8T ⊕ q8T) → Option Res} : ∀ (l : List dTxn) (i : Nat) (s1 : Int) (n : Nat), u0.drop i = l → l.length < n → vae vkk n (u0, s1, u2, (i : Int)) K = vnp u0 u2 l s1 i (Sum.elim (fun z => K (.inl (u0, z.1, z.2.1, z.2.2))) (fun z => K (.inr (u0, z.1, u2, z.2)))) := by
  intro l
  induction l with
  | nil =>
    intro i s1 n hd hn
    have hge := vax hd
    cases n with
    | zero => exact absurd hn (Nat.not_lt_zero _)
    | succ n => simp only [vae, vkk, vnp, hge, decide_false, cond_false, Sum.elim_inr, Sum.elim_inl]
  | cons y l ih =>
    intro i s1 n hd hn
    obtain ⟨hlt, hz, hd2, hw, hnn⟩ := vat hd h0
    have hy := van hd
    cases n with
    | zero => exact absurd hn (Nat.not_lt_zero _)
    | succ n =>
      have ih2 := fun (s1 : Int) => ih (i + 1) s1 n hd2 (Nat.lt_of_succ_lt_succ hn)
      simp only [vae, vkk, vnp, hlt, hz, decide_true, cond_true, and_self, if_true, hy, hw, hnn, Sum.elim_inl, Sum.elim_inr, ih2]
theorem wio {u0} {u2} (h0 : u0.length < 9223372036854775807) {K : (q8T ⊕ q8T) → Option Res} {s1 : Int} : vae vkk Fuel (u0, s1, u2, (0 : Int)) K = vnp u0 u2 u0 s1 0 (Sum.elim (fun z => K (.inl (u0, z.1, z.2.1, z.2.2))) (fun z => K (.inr (u0, z.1, u2, z.2)))) :=
  wj5 h0 u0 0 s1 Fuel rfl (vav h0)
def vgu (u0 : (List vaa)) : List vaa → (List vaa) → Nat → ((Int × (List vaa)) → Option Res) → Option Res
  | [], s2, i, k =>
    k ((i : Int), s2)
  | y :: l, s2, i, k =>
    vvj y (fun y1 =>
      if 0 ≤ (i : Int) ∧ (i : Int) < (s2.length : Int) then
        vgu u0 l (s2.set (i : Int).toNat y1) (i + 1) k
      else none)
theorem wlq {u0} (h0 : u0.length < 9223372036854775807) {K : q14T → Option Res} : ∀ (l : List vaa) (i : Nat) (s2 : (List vaa)) (n : Nat), u0.drop i = l → l.length < n → vae vlp n (u0, (i : Int), s2) K = vgu u0 l s2 i (fun z => K (u0, z.1, z.2)) := by
  intro l
  induction l with
  | nil =>
    intro i s2 n hd hn
    have hge := vax hd
    cases n with
    | zero => exact absurd hn (Nat.not_lt_zero _)
    | succ n => simp only [vae, vlp, vgu, hge, decide_false, cond_false, Sum.elim_inr, Sum.elim_inl]
  | cons y l ih =>
    intro i s2 n hd hn
    obtain ⟨hlt, hz, hd2, hw, hnn⟩ := vat hd h0
    have hy := van hd
    cases n with
    | zero => exact absurd hn (Nat.not_lt_zero _)
    | succ n =>
      have ih2 := fun (s2 : (List vaa)) => ih (i + 1) s2 n hd2 (Nat.lt_of_succ_lt_succ hn)
      simp only [vae, vlp, vgu, hlt, hz, decide_true, cond_true, and_self, if_true, hy, hw, hnn, Sum.elim_inl, Sum.elim_inr, ih2]
theorem wid {u0} (h0 : u0.length < 9223372036854775807) {K : q14T → Option Res} {s2 : (List vaa)} : vae vlp Fuel (u0, (0 : Int), s2) K = vgu u0 u0 s2 0 (fun z => K (u0, z.1, z.2)) :=
  wlq h0 u0 0 s2 Fuel rfl (vav h0)
def wci (a0 : (List vaa)) (k : (List vaa) → Option Res) : Option Res :=
  if 0 ≤ (a0.length : Int) ∧ (a0.length : Int) ≤ (a0.length : Int) ∧ (a0.length : Int) ≤ (VE.maxLen : Int) then
    vgu a0 a0 (List.replicate (a0.length : Int).toNat (Ty.zero tVersion)) 0 (fun z33 =>
      k z33.2)
  else none
theorem wti {a0 : (List vaa)} (h0 : a0.length < 9223372036854775807) {k : (List vaa) → Option Res} : vvw a0 k = wci a0 k := by
  rw [wdf]
  simp only [v9b, wci, (wid h0), Sum.elim_inl, Sum.elim_inr]
def vf6 (u0 : (List vab)) : List vab → (List vab) → Nat → ((Int × (List vab)) → Option Res) → Option Res
  | [], s2, i, k =>
    k ((i : Int), s2)
  | y :: l, s2, i, k =>
    viw y (fun y1 =>
      if 0 ≤ (i : Int) ∧ (i : Int) < (s2.length : Int) then
        vf6 u0 l (s2.set (i : Int).toNat y1) (i + 1) k
      else none)
theorem wj6 {u0} (h0 : u0.length < 9223372036854775807) {K : q1T → Option Res} : ∀ (l : List vab) (i : Nat) (s2 : (List vab)) (n : Nat), u0.drop i = l → l.length < n → vae vji n (u0, (i : Int), s2) K = vf6 u0 l s2 i (fun z => K (u0, z.1, z.2)) := by
  intro l
  induction l with
  | nil =>
    intro i s2 n hd hn
    have hge := vax hd
    cases n with
    | zero => exact absurd hn (Nat.not_lt_zero _)
    | succ n => simp only [vae, vji, vf6, hge, decide_false, cond_false, Sum.elim_inr, Sum.elim_inl]
  | cons y l ih =>
    intro i s2 n hd hn
    obtain ⟨hlt, hz, hd2, hw, hnn⟩ := vat hd h0
    have hy := van hd
    cases n with
    | zero => exact absurd hn (Nat.not_lt_zero _)
    | succ n =>
      have ih2 := fun (s2 : (List vab)) => ih (i + 1) s2 n hd2 (Nat.lt_of_succ_lt_succ hn)
      simp only [vae, vji, vf6, hlt, hz, decide_true, cond_true, and_self, if_true, hy, hw, hnn, Sum.elim_inl, Sum.elim_inr, ih2]
theorem wlv {u0} (h0 : u0.length < 9223372036854775807) {K : q1T → Option Res} {s2 : (List vab)} : vae vji Fuel (u0, (0 : Int), s2) K = vf6 u0 u0 s2 0 (fun z => K (u0, z.1, z.2)) :=
  wj6 h0 u0 0 s2 Fuel rfl (vav h0)
def wdw (a0 : (List vab)) (k : (List vab) → Option Res) : Option Res :=
  if 0 ≤ (a0.length : Int) ∧ (a0.length : Int) ≤ (a0.length : Int) ∧ (a0.length : Int) ≤ (VE.maxLen : Int) then
    vf6 a0 a0 (List.replicate (a0.length : Int).toNat (Ty.zero tRange)) 0 (fun z33 =>
      k z33.2)
  else none
theorem ws5 {a0 : (List vab)} (h0 : a0.length < 9223372036854775807) {k : (List vab) → Option Res} : vxi a0 k = wdw a0 k := by
  rw [wcq]
  simp only [v80, wdw, (wlv h0), Sum.elim_inl, Sum.elim_inr]
def vgl (u0 : (List vaf)) : List vaf → (List vaf) → Nat → ((Int × (List vaf)) → Option Res) → Option Res
  | [], s2, i, k =>
    k ((i : Int), s2)
  | y :: l, s2, i, k =>
    vyi y (fun y1 =>
      if 0 ≤ (i : Int) ∧ (i : Int) < (s2.length : Int) then
        vgl u0 l (s2.set (i : Int).toNat y1) (i + 1) k
      else none)
theorem wis {u0} (h0 : u0.length < 9223372036854775807) {K : q24T → Option Res} : ∀ (l : List vaf) (i : Nat) (s2 : (List vaf)) (n : Nat), u0.drop i = l → l.length < n → vae vli n (u0, (i : Int), s2) K = vgl u0 l s2 i (fun z => K (u0, z.1, z.2)) := by
  intro l
  induction l with
  | nil =>
    intro i s2 n hd hn
    have hge := vax hd
    cases n with
    | zero => exact absurd hn (Nat.not_lt_zero _)
    | succ n => simp only [vae, vli, vgl, hge, decide_false, cond_false, Sum.elim_inr, Sum.elim_inl]
  | cons y l ih =>
    intro i s2 n hd hn
    obtain ⟨hlt, hz, hd2, hw, hnn⟩ := vat hd h0
    have hy := van hd
    cases n with
    | zero => exact absurd hn (Nat.not_lt_zero _)
    | succ n =>
      have ih2 := fun (s2 : (List vaf)) => ih (i + 1) s2 n hd2 (Nat.lt_of_succ_lt_succ hn)
      simp only [vae, vli, vgl, hlt, hz, decide_true, cond_true, and_self, if_true, hy, hw, hnn, Sum.elim_inl, Sum.elim_inr, ih2]
theorem wlp {u0} (h0 : u0.length < 9223372036854775807) {K : q24T → Option Res} {s2 : (List vaf)} : vae vli Fuel (u0, (0 : Int), s2) K = vgl u0 u0 s2 0 (fun z => K (u0, z.1, z.2)) :=
  wis h0 u0 0 s2 Fuel rfl (vav h0)
def wfk (a0 : (List vaf)) (k : (List vaf) → Option Res) : Option Res :=
  if 0 ≤ (a0.length : Int) ∧ (a0.length : Int) ≤ (a0.length : Int) ∧ (a0.length : Int) ≤ (VE.maxLen : Int) then
    vgl a0 a0 (List.replicate (a0.length : Int).toNat (Ty.zero tWrite)) 0 (fun z33 =>
      k z33.2)
  else none
theorem wru {a0 : (List vaf)} (h0 : a0.length < 9223372036854775807) {k : (List vaf) → Option Res} : vyg a0 k = wfk a0 k := by
  rw [wgo]
  simp only [v6f, wfk, (wlp h0), Sum.elim_inl, Sum.elim_inr]
def vg3 (u0 : (List dTxn)) : List dTxn → (List dTxn) → Nat → ((Int × (List dTxn)) → Option Res) → Option Res
  | [], s2, i, k =>
    k ((i : Int), s2)
  | y :: l, s2, i, k =>
    vsa y (fun y1 =>
      if 0 ≤ (i : Int) ∧ (i : Int) < (s2.length : Int) then
        vg3 u0 l (s2.set (i : Int).toNat (y1.1, (y1.2.1, (y1.2.2.1, (y1.2.2.2.1, (y1.2.2.2.2.2.2.1, (y1.2.2.2.2.2.2.2, (y1.2.2.2.2.1, y1.2.2.2.2.2.1)))))))) (i + 1) k
      else none)
theorem wk1 {u0} (h0 : u0.length < 9223372036854775807) {K : q5T → Option Res} : ∀ (l : List dTxn) (i : Nat) (s2 : (List dTxn)) (n : Nat), u0.drop i = l → l.length < n → vae vkp n (u0, (i : Int), s2) K = vg3 u0 l s2 i (fun z => K (u0, z.1, z.2)) := by
  intro l
  induction l with
  | nil =>
    intro i s2 n hd hn
    have hge := vax hd
    cases n with
    | zero => exact absurd hn (Nat.not_lt_zero _)
    | succ n => simp only [vae, vkp, vg3, hge, decide_false, cond_false, Sum.elim_inr, Sum.elim_inl]
  | cons y l ih =>
    intro i s2 n hd hn
    obtain ⟨hlt, hz, hd2, hw, hnn⟩ := vat hd h0
    have hy := van hd
    cases n with
    | zero => exact absurd hn (Nat.not_lt_zero _)
    | succ n =>
      have ih2 := fun (s2 : (List dTxn)) => ih (i + 1) s2 n hd2 (Nat.lt_of_succ_lt_succ hn)
      simp only [vae, vkp, vg3, hlt, hz, decide_true, cond_true, and_self, if_true, hy, hw, hnn, Sum.elim_inl, Sum.elim_inr, ih2]
theorem wkf {u0} (h0 : u0.length < 9223372036854775807) {K : q5T → Option Res} {s2 : (List dTxn)} : vae vkp Fuel (u0, (0 : Int), s2) K = vg3 u0 u0 s2 0 (fun z => K (u0, z.1, z.2)) :=
  wk1 h0 u0 0 s2 Fuel rfl (vav h0)
def wf5 (a0 : (List dTxn)) (k : (List dTxn) → Option Res) : Option Res :=
  if 0 ≤ (a0.length : Int) ∧ (a0.length : Int) ≤ (a0.length : Int) ∧ (a0.length : Int) ≤ (VE.maxLen : Int) then
    vg3 a0 a0 (List.replicate (a0.length : Int).toNat (Ty.zero tTxn)) 0 (fun z33 =>
      k z33.2)
  else none
theorem wqy {a0 : (List dTxn)} (h0 : a0.length < 9223372036854775807) {k : (List dTxn) → Option Res} : vqn a0 k = wf5 a0 k := by
  rw [wcy]
  simp only [v71, wf5, (wkf h0), Sum.elim_inl, Sum.elim_inr]
def vhy (u0 : (List dTxn)) : List dTxn → (List dTxn) → Nat → ((Int × (List dTxn)) → Option Res) → Option Res
  | [], s2, i, k =>
    k ((i : Int), s2)
  | y :: l, s2, i, k =>
    vqh y (fun y1 =>
      if s2.length + [(y1.1, (y1.2.1, (y1.2.2.1, (y1.2.2.2.1, (y1.2.2.2.2.2.2.1, (y1.2.2.2.2.2.2.2, (y1.2.2.2.2.1, y1.2.2.2.2.2.1)))))))].length ≤ VE.maxLen then
        vhy u0 l (s2 ++ [(y1.1, (y1.2.1, (y1.2.2.1, (y1.2.2.2.1, (y1.2.2.2.2.2.2.1, (y1.2.2.2.2.2.2.2, (y1.2.2.2.2.1, y1.2.2.2.2.2.1)))))))]) (i + 1) k
      else none)
theorem wji {u0} (h0 : u0.length < 9223372036854775807) {K : q5T → Option Res} : ∀ (l : List dTxn) (i : Nat) (s2 : (List dTxn)) (n : Nat), u0.drop i = l → l.length < n → vae vkx n (u0, (i : Int), s2) K = vhy u0 l s2 i (fun z => K (u0, z.1, z.2)) := by
  intro l
  induction l with
  | nil =>
    intro i s2 n hd hn
    have hge := vax hd
    cases n with
    | zero => exact absurd hn (Nat.not_lt_zero _)
    | succ n => simp only [vae, vkx, vhy, hge, decide_false, cond_false, Sum.elim_inr, Sum.elim_inl]
  | cons y l ih =>
    intro i s2 n hd hn
    obtain ⟨hlt, hz, hd2, hw, hnn⟩ := vat hd h0
    have hy := van hd
    cases n with
    | zero => exact absurd hn (Nat.not_lt_zero _)
    | succ n =>
      have ih2 := fun (s2 : (List dTxn)) => ih (i + 1) s2 n hd2 (Nat.lt_of_succ_lt_succ hn)
      simp only [vae, vkx, vhy, hlt, hz, decide_true, cond_true, and_self, if_true, hy, hw, hnn, Sum.elim_inl, Sum.elim_inr, ih2]
theorem wkh {u0} (h0 : u0.length < 9223372036854775807) {K : q5T → Option Res} {s2 : (List dTxn)} : vae vkx Fuel (u0, (0 : Int), s2) K = vhy u0 u0 s2 0 (fun z => K (u0, z.1, z.2)) :=
  wji h0 u0 0 s2 Fuel rfl (vav h0)
def wf2 (a0 : (List dTxn)) (k : (List dTxn) → Option Res) : Option Res :=
  vhy a0 a0 ([] : List dTxn) 0 (fun z33 =>
    k z33.2)
theorem wsk {a0 : (List dTxn)} (h0 : a0.length < 9223372036854775807) {k : (List dTxn) → Option Res} : vqi a0 k = wf2 a0 k := by
  rw [wd3]
  simp only [v7v, wf2, (wkh h0), Sum.elim_inl, Sum.elim_inr]
def vgz (u0 : Int) (u1 : Int) (u3 : (List vaa)) (u4 : (List dTxn)) (u5 : (List dTxn)) (u6 : Int) (u7 : Int) (u8 : (List dTxn)) : List dTxn → Nat → (((Int × Int) ⊕ Int) → Option Res) → Option Res
  | [], i, k =>
    k (.inr (i : Int))
  | y :: l, i, k =>
    bif (y.1 == u0) then
      k (.inl ((i : Int), (i : Int)))
    else
      vgz u0 u1 u3 u4 u5 u6 u7 u8 l (i + 1) k
theorem wlw {u0} {u1} {u3} {u4} {u5} {u6} {u7} {u8} (h0 : u8.length < 9223372036854775807) {K : (q46T ⊕ q46T) → Option Res} : ∀ (l : List dTxn) (i : Nat)  (n : Nat), u8.drop i = l → l.length < n → vae vll n (u0, u1, (i : Int), u3, u4, u5, u6, u7, u8) K = vgz u0 u1 u3 u4 u5 u6 u7 u8 l  i (Sum.elim (fun z => K (.inl (u0, z.1, z.2, u3, u4, u5, u6, u7, u8))) (fun z => K (.inr (u0, u1, z, u3, u4, u5, u6, u7, u8)))) := by
  intro l
  induction l with
  | nil =>
    intro i  n hd hn
    have hge := vax hd
    cases n with
    | zero => exact absurd hn (Nat.not_lt_zero _)
    | succ n => simp only [vae, vll, vgz, hge, decide_false, cond_false, Sum.elim_inr, Sum.elim_inl]
  | cons y l ih =>
    intro i  n hd hn
    obtain ⟨hlt, hz, hd2, hw, hnn⟩ := vat hd h0
    have hy := van hd
    cases n with
    | zero => exact absurd hn (Nat.not_lt_zero _)
    | succ n =>
      have ih2 := ih (i + 1)  n hd2 (Nat.lt_of_succ_lt_succ hn)
      simp only [vae, vll, vgz, hlt, hz, decide_true, cond_true, and_self, if_true, hy, hw, hnn, Sum.elim_inl, Sum.elim_inr, ih2]
theorem wj9 {u0} {u1} {u3} {u4} {u5} {u6} {u7} {u8} (h0 : u8.length < 9223372036854775807) {K : (q46T ⊕ q46T) → Option Res}  : vae vll Fuel (u0, u1, (0 : Int), u3, u4, u5, u6, u7, u8) K = vgz u0 u1 u3 u4 u5 u6 u7 u8 u8  0 (Sum.elim (fun z => K (.inl (u0, z.1, z.2, u3, u4, u5, u6, u7, u8))) (fun z => K (.inr (u0, u1, z, u3, u4, u5, u6, u7, u8)))) :=
  wlw h0 u8 0  Fuel rfl (vav h0)
def wdn (a0 : vbb) (a1 : Int) (k : Int → Option Res) : Option Res :=
  vgz a1 (0 : Int) a0.1.1 a0.1.2.1 a0.1.2.2.1 a0.1.2.2.2.1 a0.1.2.2.2.2 a0.2 a0.2  0 (Sum.elim (fun z33 =>
    k z33.1) (fun _ =>
    k (-1 : Int)))
theorem ws9 {a0 : vbb} {a1 : Int} (h0 : a0.2.length < 9223372036854775807) {k : Int → Option Res} : vys a0 a1 k = wdn a0 a1 k := by
  rw [whi]
  simp only [v8a, wdn, (wj9 h0), Sum.elim_inl, Sum.elim_inr]
def vjg (u0 : ByteArray) (u1 : Bool) : List Int → Nat → (((Bool × Int) ⊕ Int) → Option Res) → Option Res
  | [], i, k =>
    k (.inr (i : Int))
  | y :: l, i, k =>
    bif (decide (y < (97 : Int))) then
      k (.inl (false, (i : Int)))
    else
      bif (decide (y > (122 : Int))) then
        k (.inl (false, (i : Int)))
      else
        vjg u0 u1 l (i + 1) k
theorem wih {u0} {u1} (h0 : u0.size < 9223372036854775807) {K : ((ByteArray × Bool × Int) ⊕ (ByteArray × Bool × Int)) → Option Res} : ∀ (l : List Int) (i : Nat)  (n : Nat), (vb6 u0).drop i = l → l.length < n → vae vlk n (u0, u1, (i : Int)) K = vjg u0 u1 l  i (Sum.elim (fun z => K (.inl (u0, z.1, z.2))) (fun z => K (.inr (u0, u1, z)))) := by
  intro l
  induction l with
  | nil =>
    intro i  n hd hn
    have hge := wg1 hd
    cases n with
    | zero => exact absurd hn (Nat.not_lt_zero _)
    | succ n => simp only [vae, vlk, vjg, hge, decide_false, cond_false, Sum.elim_inr, Sum.elim_inl]
  | cons y l ih =>
    intro i  n hd hn
    obtain ⟨hlt, hz, hd2, hw, hnn⟩ := v70 hd h0
    have hy := wct hd
    cases n with
    | zero => exact absurd hn (Nat.not_lt_zero _)
    | succ n =>
      have ih2 := ih (i + 1)  n hd2 (Nat.lt_of_succ_lt_succ hn)
      simp only [vae, vlk, vjg, hlt, hz, decide_true, cond_true, and_self, if_true, hy, hw, hnn, Sum.elim_inl, Sum.elim_inr, ih2]
theorem wj7 {u0} {u1} (h0 : u0.size < 9223372036854775807) {K : ((ByteArray × Bool × Int) ⊕ (ByteArray × Bool × Int)) → Option Res}  : vae vlk Fuel (u0, u1, (0 : Int)) K = vjg u0 u1 (vb6 u0)  0 (Sum.elim (fun z => K (.inl (u0, z.1, z.2))) (fun z => K (.inr (u0, u1, z)))) :=
  wih h0 (vb6 u0) 0  Fuel rfl (v7w h0)
def wc1 (a0 : ByteArray) (k : Bool → Option Res) : Option Res :=
  vjg a0 false (vb6 a0)  0 (Sum.elim (fun z33 =>
    k z33.1) (fun _ =>
    vf3 (a0.size : Int) (1 : Int) (3 : Int) (fun y35 =>
      k y35)))
theorem wtn {a0 : ByteArray} (h0 : a0.size < 9223372036854775807) {k : Bool → Option Res} : vmp a0 k = wc1 a0 k := by
  rw [whc]
  simp only [v7z, wc1, (wj7 h0), Sum.elim_inl, Sum.elim_inr]
def vh1 (u0 : (List vaf)) (u1 : Bool) : List vaf → Nat → (((Bool × Int) ⊕ Int) → Option Res) → Option Res
  | [], i, k =>
    k (.inr (i : Int))
  | y :: l, i, k =>
    vw7 y (fun y1 =>
      bif (!y1) then
        k (.inl (false, (i : Int)))
      else
        bif (decide ((i : Int) > (0 : Int))) then
          if 0 ≤ (IntKind.wrap .i64 ((i : Int) - (1 : Int))) ∧ (IntKind.wrap .i64 ((i : Int) - (1 : Int))) < (u0.length : Int) then
            bif (!(vaj ((rd (Ty.zero tWrite) u0 (IntKind.wrap .i64 ((i : Int) - (1 : Int)))).1) (y.1))) then
              k (.inl (false, (i : Int)))
            else
              vh1 u0 u1 l (i + 1) k
          else none
        else
          vh1 u0 u1 l (i + 1) k)
theorem whw {u0} {u1} (h0 : u0.length < 9223372036854775807) {K : (((List vaf) × Bool × Int) ⊕ ((List vaf) × Bool × Int)) → Option Res} : ∀ (l : List vaf) (i : Nat)  (n : Nat), u0.drop i = l → l.length < n → vae vjd n (u0, u1, (i : Int)) K = vh1 u0 u1 l  i (Sum.elim (fun z => K (.inl (u0, z.1, z.2))) (fun z => K (.inr (u0, u1, z)))) := by
  intro l
  induction l with
  | nil =>
    intro i  n hd hn
    have hge := vax hd
    cases n with
    | zero => exact absurd hn (Nat.not_lt_zero _)
    | succ n => simp only [vae, vjd, vh1, hge, decide_false, cond_false, Sum.elim_inr, Sum.elim_inl]
  | cons y l ih =>
    intro i  n hd hn
    obtain ⟨hlt, hz, hd2, hw, hnn⟩ := vat hd h0
    have hy := van hd
    cases n with
    | zero => exact absurd hn (Nat.not_lt_zero _)
    | succ n =>
      have ih2 := ih (i + 1)  n hd2 (Nat.lt_of_succ_lt_succ hn)
      simp only [vae, vjd, vh1, hlt, hz, decide_true, cond_true, and_self, if_true, hy, hw, hnn, Sum.elim_inl, Sum.elim_inr, ih2]
theorem wkr {u0} {u1} (h0 : u0.length < 9223372036854775807) {K : (((List vaf) × Bool × Int) ⊕ ((List vaf) × Bool × Int)) → Option Res}  : vae vjd Fuel (u0, u1, (0 : Int)) K = vh1 u0 u1 u0  0 (Sum.elim (fun z => K (.inl (u0, z.1, z.2))) (fun z => K (.inr (u0, u1, z)))) :=
  whw h0 u0 0  Fuel rfl (vav h0)
def wgk (a0 : (List vaf)) (k : Bool → Option Res) : Option Res :=
  vh1 a0 false a0  0 (Sum.elim (fun z33 =>
    k z33.1) (fun _ =>
    k (decide ((a0.length : Int) ≤ (8 : Int)))))
theorem wqn {a0 : (List vaf)} (h0 : a0.length < 9223372036854775807) {k : Bool → Option Res} : vta a0 k = wgk a0 k := by
  rw [wgq]
  simp only [v7g, wgk, (wkr h0), Sum.elim_inl, Sum.elim_inr]
def vb2 (u0 : Bool) (u1 : Int) (u2 : Int) (u3 : Int) (u4 : Int) (u5 : (List vab)) (u6 : (List vaf)) (u7 : Bool) (u8 : ByteArray) (k : Bool → Option Res) : Option Res :=
    bif (u2 != (1 : Int)) then
      k true
    else
      k (!u7)
theorem vve {u0} {u1} {u2} {u3} {u4} {u5} {u6} {u7} {u8}  {K : q33T → Option Res} : vbr (u0, u1, u2, u3, u4, u5, u6, u7, u8) K = vb2 u0 u1 u2 u3 u4 u5 u6 u7 u8 (fun z => K (z, u1, u2, u3, u4, u5, u6, u7, u8)) := by
  simp only [vbr, vb2, Sum.elim_inl, Sum.elim_inr]
def vb5 (u0 : Bool) (u1 : Int) (u2 : Int) (u3 : Int) (u4 : Int) (u5 : (List vab)) (u6 : (List vaf)) (u7 : Bool) (u8 : ByteArray) (k : Bool → Option Res) : Option Res :=
    bif (u2 == (2 : Int)) then
      vmp u8 (fun y1 =>
        bif (!y1) then
          k false
        else
          bif (u2 != (2 : Int)) then
            bif (!(vas u8 (⟨#[]⟩ : ByteArray))) then
              k false
            else
              vb2 u0 u1 u2 u3 u4 u5 u6 u7 u8 (fun z2 =>
                k z2)
          else
            vb2 u0 u1 u2 u3 u4 u5 u6 u7 u8 (fun z3 =>
              k z3))
    else
      bif (u2 != (2 : Int)) then
        bif (!(vas u8 (⟨#[]⟩ : ByteArray))) then
          k false
        else
          vb2 u0 u1 u2 u3 u4 u5 u6 u7 u8 (fun z4 =>
            k z4)
      else
        vb2 u0 u1 u2 u3 u4 u5 u6 u7 u8 (fun z5 =>
          k z5)
theorem vup {u0} {u1} {u2} {u3} {u4} {u5} {u6} {u7} {u8}  {K : q33T → Option Res} : vbp (u0, u1, u2, u3, u4, u5, u6, u7, u8) K = vb5 u0 u1 u2 u3 u4 u5 u6 u7 u8 (fun z => K (z, u1, u2, u3, u4, u5, u6, u7, u8)) := by
  simp only [vbp, vb5, vve, Sum.elim_inl, Sum.elim_inr]
def vj9 (u0 : Bool) (u2 : Int) (u3 : Int) (u4 : Int) (u5 : Int) (u6 : (List vab)) (u7 : (List vaf)) (u8 : Bool) (u9 : ByteArray) : List vab → Nat → (((Bool × Int) ⊕ Int) → Option Res) → Option Res
  | [], i, k =>
    k (.inr (i : Int))
  | y :: l, i, k =>
    vol y (fun y1 =>
      bif (!y1) then
        k (.inl (false, (i : Int)))
      else
        vj9 u0 u2 u3 u4 u5 u6 u7 u8 u9 l (i + 1) k)
theorem wit {u0} {u2} {u3} {u4} {u5} {u6} {u7} {u8} {u9} (h0 : u6.length < 9223372036854775807) {K : (q36T ⊕ q36T) → Option Res} : ∀ (l : List vab) (i : Nat)  (n : Nat), u6.drop i = l → l.length < n → vae vjy n (u0, (i : Int), u2, u3, u4, u5, u6, u7, u8, u9) K = vj9 u0 u2 u3 u4 u5 u6 u7 u8 u9 l  i (Sum.elim (fun z => K (.inl (z.1, z.2, u2, u3, u4, u5, u6, u7, u8, u9))) (fun z => K (.inr (u0, z, u2, u3, u4, u5, u6, u7, u8, u9)))) := by
  intro l
  induction l with
  | nil =>
    intro i  n hd hn
    have hge := vax hd
    cases n with
    | zero => exact absurd hn (Nat.not_lt_zero _)
    | succ n => simp only [vae, vjy, vj9, hge, decide_false, cond_false, Sum.elim_inr, Sum.elim_inl]
  | cons y l ih =>
    intro i  n hd hn
    obtain ⟨hlt, hz, hd2, hw, hnn⟩ := vat hd h0
    have hy := van hd
    cases n with
    | zero => exact absurd hn (Nat.not_lt_zero _)
    | succ n =>
      have ih2 := ih (i + 1)  n hd2 (Nat.lt_of_succ_lt_succ hn)
      simp only [vae, vjy, vj9, hlt, hz, decide_true, cond_true, and_self, if_true, hy, hw, hnn, Sum.elim_inl, Sum.elim_inr, ih2]
theorem wi4 {u0} {u2} {u3} {u4} {u5} {u6} {u7} {u8} {u9} (h0 : u6.length < 9223372036854775807) {K : (q36T ⊕ q36T) → Option Res}  : vae vjy Fuel (u0, (0 : Int), u2, u3, u4, u5, u6, u7, u8, u9) K = vj9 u0 u2 u3 u4 u5 u6 u7 u8 u9 u6  0 (Sum.elim (fun z => K (.inl (z.1, z.2, u2, u3, u4, u5, u6, u7, u8, u9))) (fun z => K (.inr (u0, z, u2, u3, u4, u5, u6, u7, u8, u9)))) :=
  wit h0 u6 0  Fuel rfl (vav h0)
def vd9 (u0 : Bool) (u1 : Int) (u2 : Int) (u3 : Int) (u4 : Int) (u5 : (List vab)) (u6 : (List vaf)) (u7 : Bool) (u8 : ByteArray) (k : Bool → Option Res) : Option Res :=
    vj9 u0 u1 u2 u3 u4 u5 u6 u7 u8 u5  0 (Sum.elim (fun z1 =>
      k z1.1) (fun _ =>
      bif (u2 == (3 : Int)) then
        vf3 u4 (IntKind.wrap .i64 (u3 + (1 : Int))) (9999 : Int) (fun y3 =>
          bif (!y3) then
            k false
          else
            bif (u2 != (3 : Int)) then
              bif (u4 != (0 : Int)) then
                k false
              else
                vb5 u0 u1 u2 u3 u4 u5 u6 u7 u8 (fun z4 =>
                  k z4)
            else
              vb5 u0 u1 u2 u3 u4 u5 u6 u7 u8 (fun z5 =>
                k z5))
      else
        bif (u2 != (3 : Int)) then
          bif (u4 != (0 : Int)) then
            k false
          else
            vb5 u0 u1 u2 u3 u4 u5 u6 u7 u8 (fun z6 =>
              k z6)
        else
          vb5 u0 u1 u2 u3 u4 u5 u6 u7 u8 (fun z7 =>
            k z7)))
theorem vvb {u0} {u1} {u2} {u3} {u4} {u5} {u6} {u7} {u8} (h0 : u5.length < 9223372036854775807) {K : q33T → Option Res} : vcq (u0, u1, u2, u3, u4, u5, u6, u7, u8) K = vd9 u0 u1 u2 u3 u4 u5 u6 u7 u8 (fun z => K (z, u1, u2, u3, u4, u5, u6, u7, u8)) := by
  simp only [vcq, vd9, vup, (wi4 h0), Sum.elim_inl, Sum.elim_inr]
def wgz (a0 : dTxn) (k : Bool → Option Res) : Option Res :=
  vf3 a0.1 (1 : Int) (9999 : Int) (fun y33 =>
    bif (!y33) then
      k false
    else
      vf3 a0.2.1 (1 : Int) (3 : Int) (fun y34 =>
        bif (!y34) then
          k false
        else
          vf3 a0.2.2.1 (0 : Int) (9999 : Int) (fun y35 =>
            bif (!y35) then
              k false
            else
              bif (decide ((a0.2.2.2.2.1.length : Int) > (8 : Int))) then
                k false
              else
                vta a0.2.2.2.2.2.1 (fun y36 =>
                  bif (!y36) then
                    k false
                  else
                    vd9 false a0.1 a0.2.1 a0.2.2.1 a0.2.2.2.1 a0.2.2.2.2.1 a0.2.2.2.2.2.1 a0.2.2.2.2.2.2.1 a0.2.2.2.2.2.2.2 (fun z37 =>
                      k z37)))))
theorem wqa {a0 : dTxn} (h0 : a0.2.2.2.2.1.length < 9223372036854775807) {k : Bool → Option Res} : vtt a0 k = wgz a0 k := by
  rw [wc7]
  simp only [v78, wgz, (vvb h0), Sum.elim_inl, Sum.elim_inr]
def vks (u0 : Bool) (u2 : Int) (u3 : Int) (u4 : Int) (u5 : Int) (u6 : (List vab)) (u7 : (List vaf)) (u8 : Bool) (u9 : ByteArray) (u10 : ByteArray) (u11 : ByteArray) (u12 : Int) (u13 : Int) (u14 : Int) (u15 : Int) (u16 : Bool) (u17 : ByteArray) (u18 : Int) (u19 : Int) (u20 : Int) (u21 : Int) (u22 : Bool) (u23 : ByteArray) (u24 : (List vab)) (u25 : (List vaf)) (u26 : (List vab)) (u27 : (List vaf)) : List vab → Nat → ((Int ⊕ (Bool × Int)) → Option Res) → Option Res
  | [], i, k =>
    k (.inl (i : Int))
  | y :: l, i, k =>
    bif (Ty.eqB tRange y (u10, u11)) then
      k (.inr (true, (i : Int)))
    else
      vks u0 u2 u3 u4 u5 u6 u7 u8 u9 u10 u11 u12 u13 u14 u15 u16 u17 u18 u19 u20 u21 u22 u23 u24 u25 u26 u27 l (i + 1) k
theorem wjn {u0} {u2} {u3} {u4} {u5} {u6} {u7} {u8} {u9} {u10} {u11} {u12} {u13} {u14} {u15} {u16} {u17} {u18} {u19} {u20} {u21} {u22} {u23} {u24} {u25} {u26} {u27} (h0 : u6.length < 9223372036854775807) {K : (q34T ⊕ q35T) → Option Res} : ∀ (l : List vab) (i : Nat)  (n : Nat), u6.drop i = l → l.length < n → vae vi9 n (u0, (i : Int), u2, u3, u4, u5, u6, u7, u8, u9, u10, u11, u12, u13, u14, u15, u16, u17, u18, u19, u20, u21, u22, u23, u24, u25, u26, u27) K = vks u0 u2 u3 u4 u5 u6 u7 u8 u9 u10 u11 u12 u13 u14 u15 u16 u17 u18 u19 u20 u21 u22 u23 u24 u25 u26 u27 l  i (Sum.elim (fun z => K (.inl (u0, z, u2, u3, u4, u5, u6, u7, u8, u9, u10, u11, u12, u13, u14, u15, u16, u17, u18, u19, u20, u21, u22, u23, u24, u25, u26, u27))) (fun z => K (.inr (z.1, z.2, u2, u3, u4, u5, u6, u7, u8, u9, u10, u11, u18, u19, u20, u21, u22, u23, u18, u19, u20, u21, u22, u23, u26, u27)))) := by
  intro l
  induction l with
  | nil =>
    intro i  n hd hn
    have hge := vax hd
    cases n with
    | zero => exact absurd hn (Nat.not_lt_zero _)
    | succ n => simp only [vae, vi9, vks, hge, decide_false, cond_false, Sum.elim_inr, Sum.elim_inl]
  | cons y l ih =>
    intro i  n hd hn
    obtain ⟨hlt, hz, hd2, hw, hnn⟩ := vat hd h0
    have hy := van hd
    cases n with
    | zero => exact absurd hn (Nat.not_lt_zero _)
    | succ n =>
      have ih2 := ih (i + 1)  n hd2 (Nat.lt_of_succ_lt_succ hn)
      simp only [vae, vi9, vks, hlt, hz, decide_true, cond_true, and_self, if_true, hy, hw, hnn, Sum.elim_inl, Sum.elim_inr, ih2]
theorem wkd {u0} {u2} {u3} {u4} {u5} {u6} {u7} {u8} {u9} {u10} {u11} {u12} {u13} {u14} {u15} {u16} {u17} {u18} {u19} {u20} {u21} {u22} {u23} {u24} {u25} {u26} {u27} (h0 : u6.length < 9223372036854775807) {K : (q34T ⊕ q35T) → Option Res}  : vae vi9 Fuel (u0, (0 : Int), u2, u3, u4, u5, u6, u7, u8, u9, u10, u11, u12, u13, u14, u15, u16, u17, u18, u19, u20, u21, u22, u23, u24, u25, u26, u27) K = vks u0 u2 u3 u4 u5 u6 u7 u8 u9 u10 u11 u12 u13 u14 u15 u16 u17 u18 u19 u20 u21 u22 u23 u24 u25 u26 u27 u6  0 (Sum.elim (fun z => K (.inl (u0, z, u2, u3, u4, u5, u6, u7, u8, u9, u10, u11, u12, u13, u14, u15, u16, u17, u18, u19, u20, u21, u22, u23, u24, u25, u26, u27))) (fun z => K (.inr (z.1, z.2, u2, u3, u4, u5, u6, u7, u8, u9, u10, u11, u18, u19, u20, u21, u22, u23, u18, u19, u20, u21, u22, u23, u26, u27)))) :=
  wjn h0 u6 0  Fuel rfl (vav h0)
def vef (u0 : Bool) (u1 : Int) (u2 : Int) (u3 : Int) (u4 : Int) (u5 : (List vab)) (u6 : (List vaf)) (u7 : Bool) (u8 : ByteArray) (u9 : ByteArray) (u10 : ByteArray) (u11 : Int) (u12 : Int) (u13 : Int) (u14 : Int) (u15 : Bool) (u16 : ByteArray) (u17 : Int) (u18 : Int) (u19 : Int) (u20 : Int) (u21 : Bool) (u22 : ByteArray) (u23 : (List vab)) (u24 : (List vaf)) (u25 : (List vab)) (u26 : (List vaf)) (k : (Bool × (List vab)) → Option Res) : Option Res :=
    vks u0 u1 u2 u3 u4 u5 u6 u7 u8 u9 u10 u11 u12 u13 u14 u15 u16 u17 u18 u19 u20 u21 u22 u23 u24 u25 u26 u5  0 (Sum.elim (fun _ =>
      bif (decide ((u5.length : Int) ≥ (8 : Int))) then
        k (false, u25)
      else
        if u25.length + [(u9, u10)].length ≤ VE.maxLen then
          k (true, (u25 ++ [(u9, u10)]))
        else none) (fun z2 =>
      k (z2.1, u25)))
theorem vvc {u0} {u1} {u2} {u3} {u4} {u5} {u6} {u7} {u8} {u9} {u10} {u11} {u12} {u13} {u14} {u15} {u16} {u17} {u18} {u19} {u20} {u21} {u22} {u23} {u24} {u25} {u26} (h0 : u5.length < 9223372036854775807) {K : q32T → Option Res} : vcx (u0, u1, u2, u3, u4, u5, u6, u7, u8, u9, u10, u11, u12, u13, u14, u15, u16, u17, u18, u19, u20, u21, u22, u23, u24, u25, u26) K = vef u0 u1 u2 u3 u4 u5 u6 u7 u8 u9 u10 u11 u12 u13 u14 u15 u16 u17 u18 u19 u20 u21 u22 u23 u24 u25 u26 (fun z => K (z.1, u1, u2, u3, u4, u5, u6, u7, u8, u9, u10, u17, u18, u19, u20, u21, u22, u17, u18, u19, u20, u21, u22, z.2, u26)) := by
  simp only [vcx, vef, (wkd h0), Sum.elim_inl, Sum.elim_inr]
def wd7 (a0 : dTxn) (a1 : vab) (k : q49T → Option Res) : Option Res :=
  vqh a0 (fun y33 =>
    vtt a0 (fun y34 =>
      bif (!y34) then
        k (y33.1, y33.2.1, y33.2.2.1, y33.2.2.2.1, y33.2.2.2.2.1, y33.2.2.2.2.2.1, false, y33.2.2.2.2.2.2.1, y33.2.2.2.2.2.2.2)
      else
        bif (a0.2.1 != (1 : Int)) then
          k (y33.1, y33.2.1, y33.2.2.1, y33.2.2.2.1, y33.2.2.2.2.1, y33.2.2.2.2.2.1, false, y33.2.2.2.2.2.2.1, y33.2.2.2.2.2.2.2)
        else
          vol a1 (fun y35 =>
            bif (!y35) then
              k (y33.1, y33.2.1, y33.2.2.1, y33.2.2.2.1, y33.2.2.2.2.1, y33.2.2.2.2.2.1, false, y33.2.2.2.2.2.2.1, y33.2.2.2.2.2.2.2)
            else
              vef false a0.1 a0.2.1 a0.2.2.1 a0.2.2.2.1 a0.2.2.2.2.1 a0.2.2.2.2.2.1 a0.2.2.2.2.2.2.1 a0.2.2.2.2.2.2.2 a1.1 a1.2 (0 : Int) (0 : Int) (0 : Int) (0 : Int) false (⟨#[]⟩ : ByteArray) y33.1 y33.2.1 y33.2.2.1 y33.2.2.2.1 y33.2.2.2.2.1 y33.2.2.2.2.2.1 ([] : List vab) ([] : List vaf) y33.2.2.2.2.2.2.1 y33.2.2.2.2.2.2.2 (fun z36 =>
                k (y33.1, y33.2.1, y33.2.2.1, y33.2.2.2.1, y33.2.2.2.2.1, y33.2.2.2.2.2.1, z36.1, z36.2, y33.2.2.2.2.2.2.2)))))
theorem wr6 {a0 : dTxn} {a1 : vab} (h0 : a0.2.2.2.2.1.length < 9223372036854775807) {k : q49T → Option Res} : vw9 a0 a1 k = wd7 a0 a1 k := by
  rw [wed]
  simp only [v6k, wd7, (vvc h0), Sum.elim_inl, Sum.elim_inr]
def veq (u0 : (List vaa)) (u1 : ByteArray) (u2 : Int) : List vaa → Int → Nat → ((Int × Int) → Option Res) → Option Res
  | [], s3, i, k =>
    k (s3, (i : Int))
  | y :: l, s3, i, k =>
    bif (vas (y.1) u1) then
      bif (decide (y.2.2.2 ≤ u2)) then
        bif (decide (s3 < (0 : Int))) then
          veq u0 u1 u2 l (i : Int) (i + 1) k
        else
          if 0 ≤ s3 ∧ s3 < (u0.length : Int) then
            bif (decide (y.2.2.2 > (rd (Ty.zero tVersion) u0 s3).2.2.2)) then
              veq u0 u1 u2 l (i : Int) (i + 1) k
            else
              veq u0 u1 u2 l s3 (i + 1) k
          else none
      else
        veq u0 u1 u2 l s3 (i + 1) k
    else
      veq u0 u1 u2 l s3 (i + 1) k
theorem wiw {u0} {u1} {u2} (h0 : u0.length < 9223372036854775807) {K : q13T → Option Res} : ∀ (l : List vaa) (i : Nat) (s3 : Int) (n : Nat), u0.drop i = l → l.length < n → vae vjr n (u0, u1, u2, s3, (i : Int)) K = veq u0 u1 u2 l s3 i (fun z => K (u0, u1, u2, z.1, z.2)) := by
  intro l
  induction l with
  | nil =>
    intro i s3 n hd hn
    have hge := vax hd
    cases n with
    | zero => exact absurd hn (Nat.not_lt_zero _)
    | succ n => simp only [vae, vjr, veq, hge, decide_false, cond_false, Sum.elim_inr, Sum.elim_inl]
  | cons y l ih =>
    intro i s3 n hd hn
    obtain ⟨hlt, hz, hd2, hw, hnn⟩ := vat hd h0
    have hy := van hd
    cases n with
    | zero => exact absurd hn (Nat.not_lt_zero _)
    | succ n =>
      have ih2 := fun (s3 : Int) => ih (i + 1) s3 n hd2 (Nat.lt_of_succ_lt_succ hn)
      simp only [vae, vjr, veq, hlt, hz, decide_true, cond_true, and_self, if_true, hy, hw, hnn, Sum.elim_inl, Sum.elim_inr, ih2]
theorem why {u0} {u1} {u2} (h0 : u0.length < 9223372036854775807) {K : q13T → Option Res} {s3 : Int} : vae vjr Fuel (u0, u1, u2, s3, (0 : Int)) K = veq u0 u1 u2 u0 s3 0 (fun z => K (u0, u1, u2, z.1, z.2)) :=
  wiw h0 u0 0 s3 Fuel rfl (vav h0)
def we5 (a0 : (List vaa)) (a1 : ByteArray) (a2 : Int) (k : Int → Option Res) : Option Res :=
  veq a0 a1 a2 a0 (-1 : Int) 0 (fun z33 =>
    k z33.1)
theorem wsn {a0 : (List vaa)} {a1 : ByteArray} {a2 : Int} (h0 : a0.length < 9223372036854775807) {k : Int → Option Res} : vyk a0 a1 a2 k = we5 a0 a1 a2 k := by
  rw [weh]
  simp only [v7t, we5, (why h0), Sum.elim_inl, Sum.elim_inr]
def vkg (u0 : (List vaa)) (u1 : ByteArray) (u2 : ByteArray) (u3 : Bool) (u5 : Int) (u6 : Int) (u7 : Int) (u8 : Int) (u9 : (List vab)) (u10 : (List vaf)) (u11 : Bool) (u12 : ByteArray) : List vaf → Nat → (((ByteArray × Bool × Int) ⊕ Int) → Option Res) → Option Res
  | [], i, k =>
    k (.inr (i : Int))
  | y :: l, i, k =>
    bif (vas (y.1) u1) then
      bif y.2.2 then
        k (.inl ((⟨#[]⟩ : ByteArray), false, (i : Int)))
      else
        k (.inl (y.2.1, true, (i : Int)))
    else
      vkg u0 u1 u2 u3 u5 u6 u7 u8 u9 u10 u11 u12 l (i + 1) k
theorem wjw {u0} {u1} {u2} {u3} {u5} {u6} {u7} {u8} {u9} {u10} {u11} {u12} (h0 : u10.length < 9223372036854775807) {K : (q11T ⊕ q11T) → Option Res} : ∀ (l : List vaf) (i : Nat)  (n : Nat), u10.drop i = l → l.length < n → vae vj8 n (u0, u1, u2, u3, (i : Int), u5, u6, u7, u8, u9, u10, u11, u12) K = vkg u0 u1 u2 u3 u5 u6 u7 u8 u9 u10 u11 u12 l  i (Sum.elim (fun z => K (.inl (u0, u1, z.1, z.2.1, z.2.2, u5, u6, u7, u8, u9, u10, u11, u12))) (fun z => K (.inr (u0, u1, u2, u3, z, u5, u6, u7, u8, u9, u10, u11, u12)))) := by
  intro l
  induction l with
  | nil =>
    intro i  n hd hn
    have hge := vax hd
    cases n with
    | zero => exact absurd hn (Nat.not_lt_zero _)
    | succ n => simp only [vae, vj8, vkg, hge, decide_false, cond_false, Sum.elim_inr, Sum.elim_inl]
  | cons y l ih =>
    intro i  n hd hn
    obtain ⟨hlt, hz, hd2, hw, hnn⟩ := vat hd h0
    have hy := van hd
    cases n with
    | zero => exact absurd hn (Nat.not_lt_zero _)
    | succ n =>
      have ih2 := ih (i + 1)  n hd2 (Nat.lt_of_succ_lt_succ hn)
      simp only [vae, vj8, vkg, hlt, hz, decide_true, cond_true, and_self, if_true, hy, hw, hnn, Sum.elim_inl, Sum.elim_inr, ih2]
theorem wkm {u0} {u1} {u2} {u3} {u5} {u6} {u7} {u8} {u9} {u10} {u11} {u12} (h0 : u10.length < 9223372036854775807) {K : (q11T ⊕ q11T) → Option Res}  : vae vj8 Fuel (u0, u1, u2, u3, (0 : Int), u5, u6, u7, u8, u9, u10, u11, u12) K = vkg u0 u1 u2 u3 u5 u6 u7 u8 u9 u10 u11 u12 u10  0 (Sum.elim (fun z => K (.inl (u0, u1, z.1, z.2.1, z.2.2, u5, u6, u7, u8, u9, u10, u11, u12))) (fun z => K (.inr (u0, u1, u2, u3, z, u5, u6, u7, u8, u9, u10, u11, u12)))) :=
  wjw h0 u10 0  Fuel rfl (vav h0)
def wf6 (a0 : dTxn) (a1 : (List vaa)) (a2 : ByteArray) (k : (ByteArray × Bool) → Option Res) : Option Res :=
  vkg a1 a2 (⟨#[]⟩ : ByteArray) false a0.1 a0.2.1 a0.2.2.1 a0.2.2.2.1 a0.2.2.2.2.1 a0.2.2.2.2.2.1 a0.2.2.2.2.2.2.1 a0.2.2.2.2.2.2.2 a0.2.2.2.2.2.1  0 (Sum.elim (fun z33 =>
    k (z33.1, z33.2.1)) (fun _ =>
    vxs a1 a2 a0.2.2.1 (fun y35 =>
      k (y35.1, y35.2))))
theorem wq5 {a0 : dTxn} {a1 : (List vaa)} {a2 : ByteArray} (h0 : a0.2.2.2.2.2.1.length < 9223372036854775807) {k : (ByteArray × Bool) → Option Res} : vtf a0 a1 a2 k = wf6 a0 a1 a2 k := by
  rw [whh]
  simp only [v9r, wf6, (wkm h0), Sum.elim_inl, Sum.elim_inr]
def vik (u0 : (List vaa)) (u2 : Int) (u3 : Int) (u4 : Int) (u5 : Int) (u6 : (List vab)) (u7 : (List vaf)) (u8 : Bool) (u9 : ByteArray) (u10 : ByteArray) (u11 : ByteArray) : List vaf → (List vaa) → Nat → ((Int × (List vaa)) → Option Res) → Option Res
  | [], s12, i, k =>
    k ((i : Int), s12)
  | y :: l, s12, i, k =>
    if s12.length + [(y.1, ((⟨#[]⟩ : ByteArray), (false, (0 : Int))))].length ≤ VE.maxLen then
      vik u0 u2 u3 u4 u5 u6 u7 u8 u9 u10 u11 l (s12 ++ [(y.1, ((⟨#[]⟩ : ByteArray), (false, (0 : Int))))]) (i + 1) k
    else none
theorem wh3 {u0} {u2} {u3} {u4} {u5} {u6} {u7} {u8} {u9} {u10} {u11} (h0 : u7.length < 9223372036854775807) {K : q19T → Option Res} : ∀ (l : List vaf) (i : Nat) (s12 : (List vaa)) (n : Nat), u7.drop i = l → l.length < n → vae vjk n (u0, (i : Int), u2, u3, u4, u5, u6, u7, u8, u9, u10, u11, s12) K = vik u0 u2 u3 u4 u5 u6 u7 u8 u9 u10 u11 l s12 i (fun z => K (u0, z.1, u2, u3, u4, u5, u6, u7, u8, u9, u10, u11, z.2)) := by
  intro l
  induction l with
  | nil =>
    intro i s12 n hd hn
    have hge := vax hd
    cases n with
    | zero => exact absurd hn (Nat.not_lt_zero _)
    | succ n => simp only [vae, vjk, vik, hge, decide_false, cond_false, Sum.elim_inr, Sum.elim_inl]
  | cons y l ih =>
    intro i s12 n hd hn
    obtain ⟨hlt, hz, hd2, hw, hnn⟩ := vat hd h0
    have hy := van hd
    cases n with
    | zero => exact absurd hn (Nat.not_lt_zero _)
    | succ n =>
      have ih2 := fun (s12 : (List vaa)) => ih (i + 1) s12 n hd2 (Nat.lt_of_succ_lt_succ hn)
      simp only [vae, vjk, vik, hlt, hz, decide_true, cond_true, and_self, if_true, hy, hw, hnn, Sum.elim_inl, Sum.elim_inr, ih2]
theorem wle {u0} {u2} {u3} {u4} {u5} {u6} {u7} {u8} {u9} {u10} {u11} (h0 : u7.length < 9223372036854775807) {K : q19T → Option Res} {s12 : (List vaa)} : vae vjk Fuel (u0, (0 : Int), u2, u3, u4, u5, u6, u7, u8, u9, u10, u11, s12) K = vik u0 u2 u3 u4 u5 u6 u7 u8 u9 u10 u11 u7 s12 0 (fun z => K (u0, z.1, u2, u3, u4, u5, u6, u7, u8, u9, u10, u11, z.2)) :=
  wh3 h0 u7 0 s12 Fuel rfl (vav h0)
def wet (a0 : dTxn) (a1 : (List vaa)) (a2 : vab) (k : (List vab) → Option Res) : Option Res :=
  if ([] : List vaa).length + a1.length ≤ VE.maxLen then
    vik a1 a0.1 a0.2.1 a0.2.2.1 a0.2.2.2.1 a0.2.2.2.2.1 a0.2.2.2.2.2.1 a0.2.2.2.2.2.2.1 a0.2.2.2.2.2.2.2 a2.1 a2.2 a0.2.2.2.2.2.1 (([] : List vaa) ++ a1) 0 (fun z33 =>
      vyj z33.2 a2 (fun y34 =>
        vae vh3 Fuel (a1, (0 : Int), a0.1, a0.2.1, a0.2.2.1, a0.2.2.2.1, a0.2.2.2.2.1, a0.2.2.2.2.2.1, a0.2.2.2.2.2.2.1, a0.2.2.2.2.2.2.2, ([] : List vab), y34) (fun z35 =>
          k z35.2.2.2.2.2.2.2.2.2.2.1)))
  else none
theorem wqb {a0 : dTxn} {a1 : (List vaa)} {a2 : vab} (h0 : a0.2.2.2.2.2.1.length < 9223372036854775807) {k : (List vab) → Option Res} : vxk a0 a1 a2 k = wet a0 a1 a2 k := by
  rw [wge]
  simp only [v9m, wet, (wle h0), Sum.elim_inl, Sum.elim_inr]
def vjp (u0 : ByteArray) (u1 : Bool) : List Int → Nat → (((Bool × Int) ⊕ Int) → Option Res) → Option Res
  | [], i, k =>
    k (.inr (i : Int))
  | y :: l, i, k =>
    bif (decide (y < (97 : Int))) then
      k (.inl (false, (i : Int)))
    else
      bif (decide (y > (122 : Int))) then
        k (.inl (false, (i : Int)))
      else
        vjp u0 u1 l (i + 1) k
theorem wlz {u0} {u1} (h0 : u0.size < 9223372036854775807) {K : ((ByteArray × Bool × Int) ⊕ (ByteArray × Bool × Int)) → Option Res} : ∀ (l : List Int) (i : Nat)  (n : Nat), (vb6 u0).drop i = l → l.length < n → vae vk6 n (u0, u1, (i : Int)) K = vjp u0 u1 l  i (Sum.elim (fun z => K (.inl (u0, z.1, z.2))) (fun z => K (.inr (u0, u1, z)))) := by
  intro l
  induction l with
  | nil =>
    intro i  n hd hn
    have hge := wg1 hd
    cases n with
    | zero => exact absurd hn (Nat.not_lt_zero _)
    | succ n => simp only [vae, vk6, vjp, hge, decide_false, cond_false, Sum.elim_inr, Sum.elim_inl]
  | cons y l ih =>
    intro i  n hd hn
    obtain ⟨hlt, hz, hd2, hw, hnn⟩ := v70 hd h0
    have hy := wct hd
    cases n with
    | zero => exact absurd hn (Nat.not_lt_zero _)
    | succ n =>
      have ih2 := ih (i + 1)  n hd2 (Nat.lt_of_succ_lt_succ hn)
      simp only [vae, vk6, vjp, hlt, hz, decide_true, cond_true, and_self, if_true, hy, hw, hnn, Sum.elim_inl, Sum.elim_inr, ih2]
theorem wjm {u0} {u1} (h0 : u0.size < 9223372036854775807) {K : ((ByteArray × Bool × Int) ⊕ (ByteArray × Bool × Int)) → Option Res}  : vae vk6 Fuel (u0, u1, (0 : Int)) K = vjp u0 u1 (vb6 u0)  0 (Sum.elim (fun z => K (.inl (u0, z.1, z.2))) (fun z => K (.inr (u0, u1, z)))) :=
  wlz h0 (vb6 u0) 0  Fuel rfl (v7w h0)
def we4 (a0 : ByteArray) (k : Bool → Option Res) : Option Res :=
  vjp a0 false (vb6 a0)  0 (Sum.elim (fun z33 =>
    k z33.1) (fun _ =>
    vf2 (a0.size : Int) (1 : Int) (3 : Int) (fun y35 =>
      k y35)))
theorem wqi {a0 : ByteArray} (h0 : a0.size < 9223372036854775807) {k : Bool → Option Res} : vmo a0 k = we4 a0 k := by
  rw [wcu]
  simp only [v6m, we4, (wjm h0), Sum.elim_inl, Sum.elim_inr]
def vit (u0 : (List dTxn)) : List dTxn → (List dTxn) → Nat → ((Int × (List dTxn)) → Option Res) → Option Res
  | [], s3, i, k =>
    k ((i : Int), s3)
  | y :: l, s3, i, k =>
    vp9 y (fun y1 =>
      if s3.length + [(y1.1, (y1.2.1, (y1.2.2.1, (y1.2.2.2.1, (y1.2.2.2.2.2.2.1, (y1.2.2.2.2.2.2.2, (y1.2.2.2.2.1, y1.2.2.2.2.2.1)))))))].length ≤ VE.maxLen then
        vit u0 l (s3 ++ [(y1.1, (y1.2.1, (y1.2.2.1, (y1.2.2.2.1, (y1.2.2.2.2.2.2.1, (y1.2.2.2.2.2.2.2, (y1.2.2.2.2.1, y1.2.2.2.2.2.1)))))))]) (i + 1) k
      else none)
theorem whn {u0} (h0 : u0.length < 9223372036854775807) {K : q6T → Option Res} : ∀ (l : List dTxn) (i : Nat) (s3 : (List dTxn)) (n : Nat), u0.drop i = l → l.length < n → vae vjf n (u0, (u0.length : Int), (i : Int), s3) K = vit u0 l s3 i (fun z => K (u0, (u0.length : Int), z.1, z.2)) := by
  intro l
  induction l with
  | nil =>
    intro i s3 n hd hn
    have hge := vax hd
    cases n with
    | zero => exact absurd hn (Nat.not_lt_zero _)
    | succ n => simp only [vae, vjf, vit, hge, decide_false, cond_false, Sum.elim_inr, Sum.elim_inl]
  | cons y l ih =>
    intro i s3 n hd hn
    obtain ⟨hlt, hz, hd2, hw, hnn⟩ := vat hd h0
    have hy := van hd
    cases n with
    | zero => exact absurd hn (Nat.not_lt_zero _)
    | succ n =>
      have ih2 := fun (s3 : (List dTxn)) => ih (i + 1) s3 n hd2 (Nat.lt_of_succ_lt_succ hn)
      simp only [vae, vjf, vit, hlt, hz, decide_true, cond_true, and_self, if_true, hy, hw, hnn, Sum.elim_inl, Sum.elim_inr, ih2]
theorem whx {u0} (h0 : u0.length < 9223372036854775807) {K : q6T → Option Res} {s3 : (List dTxn)} : vae vjf Fuel (u0, (u0.length : Int), (0 : Int), s3) K = vit u0 u0 s3 0 (fun z => K (u0, (u0.length : Int), z.1, z.2)) :=
  whn h0 u0 0 s3 Fuel rfl (vav h0)
def wcf (a0 : (List dTxn)) (k : (List dTxn) → Option Res) : Option Res :=
  vit a0 a0 ([] : List dTxn) 0 (fun z33 =>
    k z33.2)
theorem wr8 {a0 : (List dTxn)} (h0 : a0.length < 9223372036854775807) {k : (List dTxn) → Option Res} : vpz a0 k = wcf a0 k := by
  rw [wfe]
  simp only [v9p, wcf, (whx h0), Sum.elim_inl, Sum.elim_inr]
def vhz (u0 : (List dTxn)) (u1 : Int) : List dTxn → Int → Nat → (((Int × Int × Int) ⊕ (Int × Int)) → Option Res) → Option Res
  | [], s4, i, k =>
    k (.inr ((i : Int), s4))
  | y :: l, s4, i, k =>
    vw4 y s4 (fun y1 =>
      bif y1.1 then
        k (.inl ((i : Int), (i : Int), y1.2))
      else
        vhz u0 u1 l y1.2 (i + 1) k)
theorem whv {u0} {u1} (h0 : u0.length < 9223372036854775807) {K : (q7T ⊕ q7T) → Option Res} : ∀ (l : List dTxn) (i : Nat) (s4 : Int) (n : Nat), u0.drop i = l → l.length < n → vae vjc n (u0, u1, (u0.length : Int), (i : Int), s4) K = vhz u0 u1 l s4 i (Sum.elim (fun z => K (.inl (u0, z.1, (u0.length : Int), z.2.1, z.2.2))) (fun z => K (.inr (u0, u1, (u0.length : Int), z.1, z.2)))) := by
  intro l
  induction l with
  | nil =>
    intro i s4 n hd hn
    have hge := vax hd
    cases n with
    | zero => exact absurd hn (Nat.not_lt_zero _)
    | succ n => simp only [vae, vjc, vhz, hge, decide_false, cond_false, Sum.elim_inr, Sum.elim_inl]
  | cons y l ih =>
    intro i s4 n hd hn
    obtain ⟨hlt, hz, hd2, hw, hnn⟩ := vat hd h0
    have hy := van hd
    cases n with
    | zero => exact absurd hn (Nat.not_lt_zero _)
    | succ n =>
      have ih2 := fun (s4 : Int) => ih (i + 1) s4 n hd2 (Nat.lt_of_succ_lt_succ hn)
      simp only [vae, vjc, vhz, hlt, hz, decide_true, cond_true, and_self, if_true, hy, hw, hnn, Sum.elim_inl, Sum.elim_inr, ih2]
theorem wj2 {u0} {u1} (h0 : u0.length < 9223372036854775807) {K : (q7T ⊕ q7T) → Option Res} {s4 : Int} : vae vjc Fuel (u0, u1, (u0.length : Int), (0 : Int), s4) K = vhz u0 u1 u0 s4 0 (Sum.elim (fun z => K (.inl (u0, z.1, (u0.length : Int), z.2.1, z.2.2))) (fun z => K (.inr (u0, u1, (u0.length : Int), z.1, z.2)))) :=
  whv h0 u0 0 s4 Fuel rfl (vav h0)
def wgs (a0 : (List dTxn)) (a1 : Int) (k : (Int × Int) → Option Res) : Option Res :=
  vhz a0 (0 : Int) a0 a1 0 (Sum.elim (fun z33 =>
    k (z33.1, z33.2.2)) (fun z34 =>
    k ((-1 : Int), z34.2)))
theorem wtb {a0 : (List dTxn)} {a1 : Int} (h0 : a0.length < 9223372036854775807) {k : (Int × Int) → Option Res} : v1x a0 a1 k = wgs a0 a1 k := by
  rw [wc4]
  simp only [v8b, wgs, (wj2 h0), Sum.elim_inl, Sum.elim_inr]
def vif (u0 : (List vaf)) (u1 : Bool) (u2 : (List vaf)) : List vaf → Nat → (((Bool × Int) ⊕ Int) → Option Res) → Option Res
  | [], i, k =>
    k (.inr (i : Int))
  | y :: l, i, k =>
    vwb y (fun y1 =>
      bif (!y1) then
        k (.inl (false, (i : Int)))
      else
        bif (decide ((i : Int) > (0 : Int))) then
          if 0 ≤ (IntKind.wrap .i64 ((i : Int) - (1 : Int))) ∧ (IntKind.wrap .i64 ((i : Int) - (1 : Int))) < (u0.length : Int) then
            bif (!(vaj ((rd (Ty.zero tWrite) u0 (IntKind.wrap .i64 ((i : Int) - (1 : Int)))).1) (y.1))) then
              k (.inl (false, (i : Int)))
            else
              vif u0 u1 u2 l (i + 1) k
          else none
        else
          vif u0 u1 u2 l (i + 1) k)
theorem wk0 {u0} {u1} {u2} (h0 : u2.length < 9223372036854775807) {K : (q23T ⊕ q23T) → Option Res} : ∀ (l : List vaf) (i : Nat)  (n : Nat), u2.drop i = l → l.length < n → vae vlc n (u0, u1, u2, (u2.length : Int), (i : Int)) K = vif u0 u1 u2 l  i (Sum.elim (fun z => K (.inl (u0, z.1, u2, (u2.length : Int), z.2))) (fun z => K (.inr (u0, u1, u2, (u2.length : Int), z)))) := by
  intro l
  induction l with
  | nil =>
    intro i  n hd hn
    have hge := vax hd
    cases n with
    | zero => exact absurd hn (Nat.not_lt_zero _)
    | succ n => simp only [vae, vlc, vif, hge, decide_false, cond_false, Sum.elim_inr, Sum.elim_inl]
  | cons y l ih =>
    intro i  n hd hn
    obtain ⟨hlt, hz, hd2, hw, hnn⟩ := vat hd h0
    have hy := van hd
    cases n with
    | zero => exact absurd hn (Nat.not_lt_zero _)
    | succ n =>
      have ih2 := ih (i + 1)  n hd2 (Nat.lt_of_succ_lt_succ hn)
      simp only [vae, vlc, vif, hlt, hz, decide_true, cond_true, and_self, if_true, hy, hw, hnn, Sum.elim_inl, Sum.elim_inr, ih2]
theorem whz {u0} {u1} {u2} (h0 : u2.length < 9223372036854775807) {K : (q23T ⊕ q23T) → Option Res}  : vae vlc Fuel (u0, u1, u2, (u2.length : Int), (0 : Int)) K = vif u0 u1 u2 u2  0 (Sum.elim (fun z => K (.inl (u0, z.1, u2, (u2.length : Int), z.2))) (fun z => K (.inr (u0, u1, u2, (u2.length : Int), z)))) :=
  wk0 h0 u2 0  Fuel rfl (vav h0)
def wff (a0 : (List vaf)) (k : Bool → Option Res) : Option Res :=
  vif a0 false a0 a0  0 (Sum.elim (fun z33 =>
    k z33.1) (fun _ =>
    k (decide ((a0.length : Int) ≤ (8 : Int)))))
theorem wrl {a0 : (List vaf)} (h0 : a0.length < 9223372036854775807) {k : Bool → Option Res} : vsr a0 k = wff a0 k := by
  rw [wdt]
  simp only [v7q, wff, (whz h0), Sum.elim_inl, Sum.elim_inr]
def vb3 (u0 : Bool) (u1 : Int) (u2 : Int) (u3 : Int) (u4 : Int) (u5 : (List vab)) (u6 : (List vaf)) (u7 : Bool) (u8 : ByteArray) (k : Bool → Option Res) : Option Res :=
    bif (u2 == (2 : Int)) then
      vmo u8 (fun y1 =>
        bif y1 then
          k true
        else
          bif (u2 != (2 : Int)) then
            k (vas u8 (⟨#[]⟩ : ByteArray))
          else
            k false)
    else
      bif (u2 != (2 : Int)) then
        k (vas u8 (⟨#[]⟩ : ByteArray))
      else
        k false
theorem vuv {u0} {u1} {u2} {u3} {u4} {u5} {u6} {u7} {u8}  {K : q33T → Option Res} : vbq (u0, u1, u2, u3, u4, u5, u6, u7, u8) K = vb3 u0 u1 u2 u3 u4 u5 u6 u7 u8 (fun z => K (z, u1, u2, u3, u4, u5, u6, u7, u8)) := by
  simp only [vbq, vb3, Sum.elim_inl, Sum.elim_inr]
def vc5 (u0 : Bool) (u1 : Int) (u2 : Int) (u3 : Int) (u4 : Int) (u5 : (List vab)) (u6 : (List vaf)) (u7 : Bool) (u8 : ByteArray) (k : Bool → Option Res) : Option Res :=
    bif (u2 == (3 : Int)) then
      vf2 u4 (IntKind.wrap .i64 (u3 + (1 : Int))) (9999 : Int) (fun y1 =>
        bif (!y1) then
          k false
        else
          bif (u2 != (3 : Int)) then
            bif (u4 != (0 : Int)) then
              k false
            else
              vb3 u0 u1 u2 u3 u4 u5 u6 u7 u8 (fun z2 =>
                k z2)
          else
            vb3 u0 u1 u2 u3 u4 u5 u6 u7 u8 (fun z3 =>
              k z3))
    else
      bif (u2 != (3 : Int)) then
        bif (u4 != (0 : Int)) then
          k false
        else
          vb3 u0 u1 u2 u3 u4 u5 u6 u7 u8 (fun z4 =>
            k z4)
      else
        vb3 u0 u1 u2 u3 u4 u5 u6 u7 u8 (fun z5 =>
          k z5)
theorem vu1 {u0} {u1} {u2} {u3} {u4} {u5} {u6} {u7} {u8}  {K : q33T → Option Res} : vcb (u0, u1, u2, u3, u4, u5, u6, u7, u8) K = vc5 u0 u1 u2 u3 u4 u5 u6 u7 u8 (fun z => K (z, u1, u2, u3, u4, u5, u6, u7, u8)) := by
  simp only [vcb, vc5, vuv, Sum.elim_inl, Sum.elim_inr]
def vkn (u0 : Bool) (u1 : (List vab)) (u4 : Int) (u5 : Int) (u6 : Int) (u7 : Int) (u8 : (List vab)) (u9 : (List vaf)) (u10 : Bool) (u11 : ByteArray) : List vab → Nat → (((Bool × Int) ⊕ Int) → Option Res) → Option Res
  | [], i, k =>
    k (.inr (i : Int))
  | y :: l, i, k =>
    vou y (fun y1 =>
      bif (!y1) then
        k (.inl (false, (i : Int)))
      else
        vkn u0 u1 u4 u5 u6 u7 u8 u9 u10 u11 l (i + 1) k)
theorem wj4 {u0} {u1} {u4} {u5} {u6} {u7} {u8} {u9} {u10} {u11} (h0 : u1.length < 9223372036854775807) {K : (q28T ⊕ q28T) → Option Res} : ∀ (l : List vab) (i : Nat)  (n : Nat), u1.drop i = l → l.length < n → vae vko n (u0, u1, (u1.length : Int), (i : Int), u4, u5, u6, u7, u8, u9, u10, u11) K = vkn u0 u1 u4 u5 u6 u7 u8 u9 u10 u11 l  i (Sum.elim (fun z => K (.inl (z.1, u1, (u1.length : Int), z.2, u4, u5, u6, u7, u8, u9, u10, u11))) (fun z => K (.inr (u0, u1, (u1.length : Int), z, u4, u5, u6, u7, u8, u9, u10, u11)))) := by
  intro l
  induction l with
  | nil =>
    intro i  n hd hn
    have hge := vax hd
    cases n with
    | zero => exact absurd hn (Nat.not_lt_zero _)
    | succ n => simp only [vae, vko, vkn, hge, decide_false, cond_false, Sum.elim_inr, Sum.elim_inl]
  | cons y l ih =>
    intro i  n hd hn
    obtain ⟨hlt, hz, hd2, hw, hnn⟩ := vat hd h0
    have hy := van hd
    cases n with
    | zero => exact absurd hn (Nat.not_lt_zero _)
    | succ n =>
      have ih2 := ih (i + 1)  n hd2 (Nat.lt_of_succ_lt_succ hn)
      simp only [vae, vko, vkn, hlt, hz, decide_true, cond_true, and_self, if_true, hy, hw, hnn, Sum.elim_inl, Sum.elim_inr, ih2]
theorem wld {u0} {u1} {u4} {u5} {u6} {u7} {u8} {u9} {u10} {u11} (h0 : u1.length < 9223372036854775807) {K : (q28T ⊕ q28T) → Option Res}  : vae vko Fuel (u0, u1, (u1.length : Int), (0 : Int), u4, u5, u6, u7, u8, u9, u10, u11) K = vkn u0 u1 u4 u5 u6 u7 u8 u9 u10 u11 u1  0 (Sum.elim (fun z => K (.inl (z.1, u1, (u1.length : Int), z.2, u4, u5, u6, u7, u8, u9, u10, u11))) (fun z => K (.inr (u0, u1, (u1.length : Int), z, u4, u5, u6, u7, u8, u9, u10, u11)))) :=
  wj4 h0 u1 0  Fuel rfl (vav h0)
def wc5 (a0 : dTxn) (k : Bool → Option Res) : Option Res :=
  vkn false a0.2.2.2.2.1 a0.1 a0.2.1 a0.2.2.1 a0.2.2.2.1 a0.2.2.2.2.1 a0.2.2.2.2.2.1 a0.2.2.2.2.2.2.1 a0.2.2.2.2.2.2.2 a0.2.2.2.2.1  0 (Sum.elim (fun z33 =>
    k z33.1) (fun _ =>
    vf2 a0.1 (1 : Int) (9999 : Int) (fun y35 =>
      bif (!y35) then
        k false
      else
        vf2 a0.2.1 (1 : Int) (3 : Int) (fun y36 =>
          bif (!y36) then
            k false
          else
            vf2 a0.2.2.1 (0 : Int) (9999 : Int) (fun y37 =>
              bif (!y37) then
                k false
              else
                bif (decide ((a0.2.2.2.2.1.length : Int) > (8 : Int))) then
                  k false
                else
                  vsr a0.2.2.2.2.2.1 (fun y38 =>
                    bif (!y38) then
                      k false
                    else
                      bif a0.2.2.2.2.2.2.1 then
                        bif (a0.2.1 == (1 : Int)) then
                          k false
                        else
                          vc5 false a0.1 a0.2.1 a0.2.2.1 a0.2.2.2.1 a0.2.2.2.2.1 a0.2.2.2.2.2.1 a0.2.2.2.2.2.2.1 a0.2.2.2.2.2.2.2 (fun z39 =>
                            k z39)
                      else
                        vc5 false a0.1 a0.2.1 a0.2.2.1 a0.2.2.2.1 a0.2.2.2.2.1 a0.2.2.2.2.2.1 a0.2.2.2.2.2.2.1 a0.2.2.2.2.2.2.2 (fun z40 =>
                          k z40)))))))
theorem wtl {a0 : dTxn} (h0 : a0.2.2.2.2.1.length < 9223372036854775807) {k : Bool → Option Res} : vrj a0 k = wc5 a0 k := by
  rw [we7]
  simp only [v6t, wc5, vu1, (wld h0), Sum.elim_inl, Sum.elim_inr]
def vjv (u0 : (List vab)) (u1 : Int) (u4 : ByteArray) (u5 : ByteArray) : List vab → Nat → (((Int × Int) ⊕ Int) → Option Res) → Option Res
  | [], i, k =>
    k (.inr (i : Int))
  | y :: l, i, k =>
    bif (Ty.eqB tRange (u4, u5) y) then
      k (.inl ((i : Int), (i : Int)))
    else
      vjv u0 u1 u4 u5 l (i + 1) k
theorem wjq {u0} {u1} {u4} {u5} (h0 : u0.length < 9223372036854775807) {K : (q2T ⊕ q2T) → Option Res} : ∀ (l : List vab) (i : Nat)  (n : Nat), u0.drop i = l → l.length < n → vae vlb n (u0, u1, (u0.length : Int), (i : Int), u4, u5) K = vjv u0 u1 u4 u5 l  i (Sum.elim (fun z => K (.inl (u0, z.1, (u0.length : Int), z.2, u4, u5))) (fun z => K (.inr (u0, u1, (u0.length : Int), z, u4, u5)))) := by
  intro l
  induction l with
  | nil =>
    intro i  n hd hn
    have hge := vax hd
    cases n with
    | zero => exact absurd hn (Nat.not_lt_zero _)
    | succ n => simp only [vae, vlb, vjv, hge, decide_false, cond_false, Sum.elim_inr, Sum.elim_inl]
  | cons y l ih =>
    intro i  n hd hn
    obtain ⟨hlt, hz, hd2, hw, hnn⟩ := vat hd h0
    have hy := van hd
    cases n with
    | zero => exact absurd hn (Nat.not_lt_zero _)
    | succ n =>
      have ih2 := ih (i + 1)  n hd2 (Nat.lt_of_succ_lt_succ hn)
      simp only [vae, vlb, vjv, hlt, hz, decide_true, cond_true, and_self, if_true, hy, hw, hnn, Sum.elim_inl, Sum.elim_inr, ih2]
theorem wky {u0} {u1} {u4} {u5} (h0 : u0.length < 9223372036854775807) {K : (q2T ⊕ q2T) → Option Res}  : vae vlb Fuel (u0, u1, (u0.length : Int), (0 : Int), u4, u5) K = vjv u0 u1 u4 u5 u0  0 (Sum.elim (fun z => K (.inl (u0, z.1, (u0.length : Int), z.2, u4, u5))) (fun z => K (.inr (u0, u1, (u0.length : Int), z, u4, u5)))) :=
  wjq h0 u0 0  Fuel rfl (vav h0)
def wd5 (a0 : (List vab)) (a1 : vab) (k : Int → Option Res) : Option Res :=
  vjv a0 (0 : Int) a1.1 a1.2 a0  0 (Sum.elim (fun z33 =>
    k z33.1) (fun _ =>
    k (-1 : Int)))
theorem wrc {a0 : (List vab)} {a1 : vab} (h0 : a0.length < 9223372036854775807) {k : Int → Option Res} : v27 a0 a1 k = wd5 a0 a1 k := by
  rw [we1]
  simp only [v9d, wd5, (wky h0), Sum.elim_inl, Sum.elim_inr]
def veb (u0 : Bool) (u1 : Int) (u2 : Int) (u3 : Int) (u4 : Int) (u5 : (List vab)) (u6 : (List vaf)) (u7 : Bool) (u8 : ByteArray) (u9 : ByteArray) (u10 : ByteArray) (u11 : Int) (u12 : Int) (u13 : Int) (u14 : Int) (u15 : Bool) (u16 : ByteArray) (u17 : Int) (u18 : Int) (u19 : Int) (u20 : Int) (u21 : Bool) (u22 : ByteArray) (u23 : (List vab)) (u24 : (List vaf)) (u25 : (List vab)) (u26 : (List vaf)) (k : (Bool × (List vab)) → Option Res) : Option Res :=
    vyb u5 (u9, u10) (fun y1 =>
      bif y1 then
        k (true, u25)
      else
        bif ((u5.length : Int) == (8 : Int)) then
          k (false, u25)
        else
          if u25.length + [(u9, u10)].length ≤ VE.maxLen then
            k (true, (u25 ++ [(u9, u10)]))
          else none)
theorem vu2 {u0} {u1} {u2} {u3} {u4} {u5} {u6} {u7} {u8} {u9} {u10} {u11} {u12} {u13} {u14} {u15} {u16} {u17} {u18} {u19} {u20} {u21} {u22} {u23} {u24} {u25} {u26}  {K : q32T → Option Res} : vcp (u0, u1, u2, u3, u4, u5, u6, u7, u8, u9, u10, u11, u12, u13, u14, u15, u16, u17, u18, u19, u20, u21, u22, u23, u24, u25, u26) K = veb u0 u1 u2 u3 u4 u5 u6 u7 u8 u9 u10 u11 u12 u13 u14 u15 u16 u17 u18 u19 u20 u21 u22 u23 u24 u25 u26 (fun z => K (z.1, u1, u2, u3, u4, u5, u6, u7, u8, u9, u10, u17, u18, u19, u20, u21, u22, u17, u18, u19, u20, u21, u22, z.2, u26)) := by
  simp only [vcp, veb, Sum.elim_inl, Sum.elim_inr]
def wfx (a0 : dTxn) (a1 : vab) (k : q49T → Option Res) : Option Res :=
  vp9 a0 (fun y33 =>
    vrj a0 (fun y34 =>
      bif (!y34) then
        k (y33.1, y33.2.1, y33.2.2.1, y33.2.2.2.1, y33.2.2.2.2.1, y33.2.2.2.2.2.1, false, y33.2.2.2.2.2.2.1, y33.2.2.2.2.2.2.2)
      else
        bif (a0.2.1 != (1 : Int)) then
          k (y33.1, y33.2.1, y33.2.2.1, y33.2.2.2.1, y33.2.2.2.2.1, y33.2.2.2.2.2.1, false, y33.2.2.2.2.2.2.1, y33.2.2.2.2.2.2.2)
        else
          vou a1 (fun y35 =>
            bif (!y35) then
              k (y33.1, y33.2.1, y33.2.2.1, y33.2.2.2.1, y33.2.2.2.2.1, y33.2.2.2.2.2.1, false, y33.2.2.2.2.2.2.1, y33.2.2.2.2.2.2.2)
            else
              veb false a0.1 a0.2.1 a0.2.2.1 a0.2.2.2.1 a0.2.2.2.2.1 a0.2.2.2.2.2.1 a0.2.2.2.2.2.2.1 a0.2.2.2.2.2.2.2 a1.1 a1.2 (0 : Int) (0 : Int) (0 : Int) (0 : Int) false (⟨#[]⟩ : ByteArray) y33.1 y33.2.1 y33.2.2.1 y33.2.2.2.1 y33.2.2.2.2.1 y33.2.2.2.2.2.1 ([] : List vab) ([] : List vaf) y33.2.2.2.2.2.2.1 y33.2.2.2.2.2.2.2 (fun z36 =>
                k (y33.1, y33.2.1, y33.2.2.1, y33.2.2.2.1, y33.2.2.2.2.1, y33.2.2.2.2.2.1, z36.1, z36.2, y33.2.2.2.2.2.2.2)))))
theorem wsw {a0 : dTxn} {a1 : vab}  {k : q49T → Option Res} : vvp a0 a1 k = wfx a0 a1 k := by
  rw [wfi]
  simp only [v73, wfx, vu2, Sum.elim_inl, Sum.elim_inr]
def vh5 (u0 : (List vaa)) : List vaa → (List ByteArray) → Nat → ((Int × (List ByteArray)) → Option Res) → Option Res
  | [], s3, i, k =>
    k ((i : Int), s3)
  | y :: l, s3, i, k =>
    if s3.length + [y.1].length ≤ VE.maxLen then
      vh5 u0 l (s3 ++ [y.1]) (i + 1) k
    else none
theorem wij {u0} (h0 : u0.length < 9223372036854775807) {K : q17T → Option Res} : ∀ (l : List vaa) (i : Nat) (s3 : (List ByteArray)) (n : Nat), u0.drop i = l → l.length < n → vae vjj n (u0, (u0.length : Int), (i : Int), s3) K = vh5 u0 l s3 i (fun z => K (u0, (u0.length : Int), z.1, z.2)) := by
  intro l
  induction l with
  | nil =>
    intro i s3 n hd hn
    have hge := vax hd
    cases n with
    | zero => exact absurd hn (Nat.not_lt_zero _)
    | succ n => simp only [vae, vjj, vh5, hge, decide_false, cond_false, Sum.elim_inr, Sum.elim_inl]
  | cons y l ih =>
    intro i s3 n hd hn
    obtain ⟨hlt, hz, hd2, hw, hnn⟩ := vat hd h0
    have hy := van hd
    cases n with
    | zero => exact absurd hn (Nat.not_lt_zero _)
    | succ n =>
      have ih2 := fun (s3 : (List ByteArray)) => ih (i + 1) s3 n hd2 (Nat.lt_of_succ_lt_succ hn)
      simp only [vae, vjj, vh5, hlt, hz, decide_true, cond_true, and_self, if_true, hy, hw, hnn, Sum.elim_inl, Sum.elim_inr, ih2]
theorem wj3 {u0} (h0 : u0.length < 9223372036854775807) {K : q17T → Option Res} {s3 : (List ByteArray)} : vae vjj Fuel (u0, (u0.length : Int), (0 : Int), s3) K = vh5 u0 u0 s3 0 (fun z => K (u0, (u0.length : Int), z.1, z.2)) :=
  wij h0 u0 0 s3 Fuel rfl (vav h0)
def wei (a0 : (List vaa)) (k : (List ByteArray) → Option Res) : Option Res :=
  vh5 a0 a0 ([] : List ByteArray) 0 (fun z33 =>
    vn9 z33.2 (fun y34 =>
      vok y34 (Sum.elim (fun y35 =>
        k y35) (fun y36 =>
        k y36))))
theorem wsf {a0 : (List vaa)} (h0 : a0.length < 9223372036854775807) {k : (List ByteArray) → Option Res} : vro a0 k = wei a0 k := by
  rw [wf1]
  simp only [v8j, wei, (wj3 h0), Sum.elim_inl, Sum.elim_inr]
def vip (u0 : (List vaf)) (u1 : Int) : List vaf → ByteArray → Nat → (((Int × Int × ByteArray) ⊕ (Int × ByteArray)) → Option Res) → Option Res
  | [], s4, i, k =>
    k (.inr ((i : Int), s4))
  | y :: l, s4, i, k =>
    vwl y s4 (fun y1 =>
      bif y1.1 then
        k (.inl ((i : Int), (i : Int), y1.2))
      else
        vip u0 u1 l y1.2 (i + 1) k)
theorem wk9 {u0} {u1} (h0 : u0.length < 9223372036854775807) {K : (q25T ⊕ q25T) → Option Res} : ∀ (l : List vaf) (i : Nat) (s4 : ByteArray) (n : Nat), u0.drop i = l → l.length < n → vae vke n (u0, u1, (u0.length : Int), (i : Int), s4) K = vip u0 u1 l s4 i (Sum.elim (fun z => K (.inl (u0, z.1, (u0.length : Int), z.2.1, z.2.2))) (fun z => K (.inr (u0, u1, (u0.length : Int), z.1, z.2)))) := by
  intro l
  induction l with
  | nil =>
    intro i s4 n hd hn
    have hge := vax hd
    cases n with
    | zero => exact absurd hn (Nat.not_lt_zero _)
    | succ n => simp only [vae, vke, vip, hge, decide_false, cond_false, Sum.elim_inr, Sum.elim_inl]
  | cons y l ih =>
    intro i s4 n hd hn
    obtain ⟨hlt, hz, hd2, hw, hnn⟩ := vat hd h0
    have hy := van hd
    cases n with
    | zero => exact absurd hn (Nat.not_lt_zero _)
    | succ n =>
      have ih2 := fun (s4 : ByteArray) => ih (i + 1) s4 n hd2 (Nat.lt_of_succ_lt_succ hn)
      simp only [vae, vke, vip, hlt, hz, decide_true, cond_true, and_self, if_true, hy, hw, hnn, Sum.elim_inl, Sum.elim_inr, ih2]
theorem wkb {u0} {u1} (h0 : u0.length < 9223372036854775807) {K : (q25T ⊕ q25T) → Option Res} {s4 : ByteArray} : vae vke Fuel (u0, u1, (u0.length : Int), (0 : Int), s4) K = vip u0 u1 u0 s4 0 (Sum.elim (fun z => K (.inl (u0, z.1, (u0.length : Int), z.2.1, z.2.2))) (fun z => K (.inr (u0, u1, (u0.length : Int), z.1, z.2)))) :=
  wk9 h0 u0 0 s4 Fuel rfl (vav h0)
def wg7 (a0 : (List vaf)) (a1 : ByteArray) (k : (Int × ByteArray) → Option Res) : Option Res :=
  vip a0 (0 : Int) a0 a1 0 (Sum.elim (fun z33 =>
    k (z33.1, z33.2.2)) (fun z34 =>
    k ((-1 : Int), z34.2)))
theorem wsi {a0 : (List vaf)} {a1 : ByteArray} (h0 : a0.length < 9223372036854775807) {k : (Int × ByteArray) → Option Res} : v16 a0 a1 k = wg7 a0 a1 k := by
  rw [whf]
  simp only [v6r, wg7, (wkb h0), Sum.elim_inl, Sum.elim_inr]
def veu (u0 : (List vaa)) (u1 : ByteArray) (u2 : Int) (u4 : (List vaa)) : List vaa → Int → Nat → ((Int × Int) → Option Res) → Option Res
  | [], s3, i, k =>
    k (s3, (i : Int))
  | y :: l, s3, i, k =>
    bif (vas (y.1) u1) then
      bif (decide (y.2.2.2 ≤ u2)) then
        bif (decide (s3 < (0 : Int))) then
          veu u0 u1 u2 u4 l (i : Int) (i + 1) k
        else
          if 0 ≤ s3 ∧ s3 < (u0.length : Int) then
            bif (decide (y.2.2.2 > (rd (Ty.zero tVersion) u0 s3).2.2.2)) then
              veu u0 u1 u2 u4 l (i : Int) (i + 1) k
            else
              veu u0 u1 u2 u4 l s3 (i + 1) k
          else none
      else
        veu u0 u1 u2 u4 l s3 (i + 1) k
    else
      veu u0 u1 u2 u4 l s3 (i + 1) k
theorem wla {u0} {u1} {u2} {u4} (h0 : u4.length < 9223372036854775807) {K : q12T → Option Res} : ∀ (l : List vaa) (i : Nat) (s3 : Int) (n : Nat), u4.drop i = l → l.length < n → vae vk7 n (u0, u1, u2, s3, u4, (u4.length : Int), (i : Int)) K = veu u0 u1 u2 u4 l s3 i (fun z => K (u0, u1, u2, z.1, u4, (u4.length : Int), z.2)) := by
  intro l
  induction l with
  | nil =>
    intro i s3 n hd hn
    have hge := vax hd
    cases n with
    | zero => exact absurd hn (Nat.not_lt_zero _)
    | succ n => simp only [vae, vk7, veu, hge, decide_false, cond_false, Sum.elim_inr, Sum.elim_inl]
  | cons y l ih =>
    intro i s3 n hd hn
    obtain ⟨hlt, hz, hd2, hw, hnn⟩ := vat hd h0
    have hy := van hd
    cases n with
    | zero => exact absurd hn (Nat.not_lt_zero _)
    | succ n =>
      have ih2 := fun (s3 : Int) => ih (i + 1) s3 n hd2 (Nat.lt_of_succ_lt_succ hn)
      simp only [vae, vk7, veu, hlt, hz, decide_true, cond_true, and_self, if_true, hy, hw, hnn, Sum.elim_inl, Sum.elim_inr, ih2]
theorem wlh {u0} {u1} {u2} {u4} (h0 : u4.length < 9223372036854775807) {K : q12T → Option Res} {s3 : Int} : vae vk7 Fuel (u0, u1, u2, s3, u4, (u4.length : Int), (0 : Int)) K = veu u0 u1 u2 u4 u4 s3 0 (fun z => K (u0, u1, u2, z.1, u4, (u4.length : Int), z.2)) :=
  wla h0 u4 0 s3 Fuel rfl (vav h0)
def we0 (a0 : (List vaa)) (a1 : ByteArray) (a2 : Int) (k : Int → Option Res) : Option Res :=
  veu a0 a1 a2 a0 a0 (-1 : Int) 0 (fun z33 =>
    k z33.1)
theorem wtf {a0 : (List vaa)} {a1 : ByteArray} {a2 : Int} (h0 : a0.length < 9223372036854775807) {k : Int → Option Res} : vv7 a0 a1 a2 k = we0 a0 a1 a2 k := by
  rw [wcd]
  simp only [v6u, we0, (wlh h0), Sum.elim_inl, Sum.elim_inr]
def vh9 (u0 : (List vaa)) (u1 : (List vaf)) (u4 : Int) (u5 : Int) (u6 : Int) (u7 : Int) (u8 : (List vab)) (u9 : (List vaf)) (u10 : Bool) (u11 : ByteArray) (u12 : ByteArray) (u13 : ByteArray) : List vaf → (List ByteArray) → Nat → ((Int × (List ByteArray)) → Option Res) → Option Res
  | [], s14, i, k =>
    k ((i : Int), s14)
  | y :: l, s14, i, k =>
    if s14.length + [y.1].length ≤ VE.maxLen then
      vh9 u0 u1 u4 u5 u6 u7 u8 u9 u10 u11 u12 u13 l (s14 ++ [y.1]) (i + 1) k
    else none
theorem wjr {u0} {u1} {u4} {u5} {u6} {u7} {u8} {u9} {u10} {u11} {u12} {u13} (h0 : u1.length < 9223372036854775807) {K : q10T → Option Res} : ∀ (l : List vaf) (i : Nat) (s14 : (List ByteArray)) (n : Nat), u1.drop i = l → l.length < n → vae vk5 n (u0, u1, (u1.length : Int), (i : Int), u4, u5, u6, u7, u8, u9, u10, u11, u12, u13, s14) K = vh9 u0 u1 u4 u5 u6 u7 u8 u9 u10 u11 u12 u13 l s14 i (fun z => K (u0, u1, (u1.length : Int), z.1, u4, u5, u6, u7, u8, u9, u10, u11, u12, u13, z.2)) := by
  intro l
  induction l with
  | nil =>
    intro i s14 n hd hn
    have hge := vax hd
    cases n with
    | zero => exact absurd hn (Nat.not_lt_zero _)
    | succ n => simp only [vae, vk5, vh9, hge, decide_false, cond_false, Sum.elim_inr, Sum.elim_inl]
  | cons y l ih =>
    intro i s14 n hd hn
    obtain ⟨hlt, hz, hd2, hw, hnn⟩ := vat hd h0
    have hy := van hd
    cases n with
    | zero => exact absurd hn (Nat.not_lt_zero _)
    | succ n =>
      have ih2 := fun (s14 : (List ByteArray)) => ih (i + 1) s14 n hd2 (Nat.lt_of_succ_lt_succ hn)
      simp only [vae, vk5, vh9, hlt, hz, decide_true, cond_true, and_self, if_true, hy, hw, hnn, Sum.elim_inl, Sum.elim_inr, ih2]
theorem wir {u0} {u1} {u4} {u5} {u6} {u7} {u8} {u9} {u10} {u11} {u12} {u13} (h0 : u1.length < 9223372036854775807) {K : q10T → Option Res} {s14 : (List ByteArray)} : vae vk5 Fuel (u0, u1, (u1.length : Int), (0 : Int), u4, u5, u6, u7, u8, u9, u10, u11, u12, u13, s14) K = vh9 u0 u1 u4 u5 u6 u7 u8 u9 u10 u11 u12 u13 u1 s14 0 (fun z => K (u0, u1, (u1.length : Int), z.1, u4, u5, u6, u7, u8, u9, u10, u11, u12, u13, z.2)) :=
  wjr h0 u1 0 s14 Fuel rfl (vav h0)
def wd2 (a0 : dTxn) (a1 : (List vaa)) (a2 : vab) (k : (List vab) → Option Res) : Option Res :=
  vro a1 (fun y33 =>
    vh9 a1 a0.2.2.2.2.2.1 a0.1 a0.2.1 a0.2.2.1 a0.2.2.2.1 a0.2.2.2.2.1 a0.2.2.2.2.2.1 a0.2.2.2.2.2.2.1 a0.2.2.2.2.2.2.2 a2.1 a2.2 a0.2.2.2.2.2.1 y33 0 (fun z34 =>
      vn9 z34.2 (fun y35 =>
        vok y35 (Sum.elim (fun y36 =>
          vae vet Fuel (a1, (y36.length : Int), (0 : Int), a0.1, a0.2.1, a0.2.2.1, a0.2.2.2.1, a0.2.2.2.2.1, a0.2.2.2.2.2.1, a0.2.2.2.2.2.2.1, a0.2.2.2.2.2.2.2, a2.1, a2.2, ([] : List vab), y36) (fun z37 =>
            k z37.2.2.2.2.2.2.2.2.2.2.2.2.2.1)) (fun y38 =>
          vae vet Fuel (a1, (y38.length : Int), (0 : Int), a0.1, a0.2.1, a0.2.2.1, a0.2.2.2.1, a0.2.2.2.2.1, a0.2.2.2.2.2.1, a0.2.2.2.2.2.2.1, a0.2.2.2.2.2.2.2, a2.1, a2.2, ([] : List vab), y38) (fun z39 =>
            k z39.2.2.2.2.2.2.2.2.2.2.2.2.2.1))))))
theorem wrv {a0 : dTxn} {a1 : (List vaa)} {a2 : vab} (h0 : a0.2.2.2.2.2.1.length < 9223372036854775807) {k : (List vab) → Option Res} : vx6 a0 a1 a2 k = wd2 a0 a1 a2 k := by
  rw [wfj]
  simp only [v62, wd2, (wir h0), Sum.elim_inl, Sum.elim_inr]
def vja (u0 : (List vaa)) (u1 : (List vaa)) (u2 : Bool) : List vaa → Nat → (((Bool × Int) ⊕ Int) → Option Res) → Option Res
  | [], i, k =>
    k (.inr (i : Int))
  | y :: l, i, k =>
    if 0 ≤ (i : Int) ∧ (i : Int) < (u1.length : Int) then
      vxy y (rd (Ty.zero tVersion) u1 (i : Int)) (fun y1 =>
        bif (!y1) then
          k (.inl (false, (i : Int)))
        else
          vja u0 u1 u2 l (i + 1) k)
    else none
theorem wiz {u0} {u1} {u2} (h0 : u0.length < 9223372036854775807) {K : (q9T ⊕ q9T) → Option Res} : ∀ (l : List vaa) (i : Nat)  (n : Nat), u0.drop i = l → l.length < n → vae vle n (u0, u1, u2, (i : Int)) K = vja u0 u1 u2 l  i (Sum.elim (fun z => K (.inl (u0, u1, z.1, z.2))) (fun z => K (.inr (u0, u1, u2, z)))) := by
  intro l
  induction l with
  | nil =>
    intro i  n hd hn
    have hge := vax hd
    cases n with
    | zero => exact absurd hn (Nat.not_lt_zero _)
    | succ n => simp only [vae, vle, vja, hge, decide_false, cond_false, Sum.elim_inr, Sum.elim_inl]
  | cons y l ih =>
    intro i  n hd hn
    obtain ⟨hlt, hz, hd2, hw, hnn⟩ := vat hd h0
    have hy := van hd
    cases n with
    | zero => exact absurd hn (Nat.not_lt_zero _)
    | succ n =>
      have ih2 := ih (i + 1)  n hd2 (Nat.lt_of_succ_lt_succ hn)
      simp only [vae, vle, vja, hlt, hz, decide_true, cond_true, and_self, if_true, hy, hw, hnn, Sum.elim_inl, Sum.elim_inr, ih2]
theorem wh8 {u0} {u1} {u2} (h0 : u0.length < 9223372036854775807) {K : (q9T ⊕ q9T) → Option Res}  : vae vle Fuel (u0, u1, u2, (0 : Int)) K = vja u0 u1 u2 u0  0 (Sum.elim (fun z => K (.inl (u0, u1, z.1, z.2))) (fun z => K (.inr (u0, u1, u2, z)))) :=
  wiz h0 u0 0  Fuel rfl (vav h0)
def wcp (a0 : (List vaa)) (a1 : (List vaa)) (k : Bool → Option Res) : Option Res :=
  bif ((a0.length : Int) != (a1.length : Int)) then
    k false
  else
    vja a0 a1 false a0  0 (Sum.elim (fun z33 =>
      k z33.1) (fun _ =>
      k true))
theorem wqg {a0 : (List vaa)} {a1 : (List vaa)} (h0 : a0.length < 9223372036854775807) {k : Bool → Option Res} : vxe a0 a1 k = wcp a0 a1 k := by
  rw [wgr]
  simp only [v6g, wcp, (wh8 h0), Sum.elim_inl, Sum.elim_inr]
def vi7 (u0 : (List vab)) (u1 : (List vab)) (u2 : Bool) : List vab → Nat → (((Bool × Int) ⊕ Int) → Option Res) → Option Res
  | [], i, k =>
    k (.inr (i : Int))
  | y :: l, i, k =>
    if 0 ≤ (i : Int) ∧ (i : Int) < (u1.length : Int) then
      vvv y (rd (Ty.zero tRange) u1 (i : Int)) (fun y1 =>
        bif (!y1) then
          k (.inl (false, (i : Int)))
        else
          vi7 u0 u1 u2 l (i + 1) k)
    else none
theorem wlu {u0} {u1} {u2} (h0 : u0.length < 9223372036854775807) {K : (q0T ⊕ q0T) → Option Res} : ∀ (l : List vab) (i : Nat)  (n : Nat), u0.drop i = l → l.length < n → vae vkt n (u0, u1, u2, (i : Int)) K = vi7 u0 u1 u2 l  i (Sum.elim (fun z => K (.inl (u0, u1, z.1, z.2))) (fun z => K (.inr (u0, u1, u2, z)))) := by
  intro l
  induction l with
  | nil =>
    intro i  n hd hn
    have hge := vax hd
    cases n with
    | zero => exact absurd hn (Nat.not_lt_zero _)
    | succ n => simp only [vae, vkt, vi7, hge, decide_false, cond_false, Sum.elim_inr, Sum.elim_inl]
  | cons y l ih =>
    intro i  n hd hn
    obtain ⟨hlt, hz, hd2, hw, hnn⟩ := vat hd h0
    have hy := van hd
    cases n with
    | zero => exact absurd hn (Nat.not_lt_zero _)
    | succ n =>
      have ih2 := ih (i + 1)  n hd2 (Nat.lt_of_succ_lt_succ hn)
      simp only [vae, vkt, vi7, hlt, hz, decide_true, cond_true, and_self, if_true, hy, hw, hnn, Sum.elim_inl, Sum.elim_inr, ih2]
theorem wig {u0} {u1} {u2} (h0 : u0.length < 9223372036854775807) {K : (q0T ⊕ q0T) → Option Res}  : vae vkt Fuel (u0, u1, u2, (0 : Int)) K = vi7 u0 u1 u2 u0  0 (Sum.elim (fun z => K (.inl (u0, u1, z.1, z.2))) (fun z => K (.inr (u0, u1, u2, z)))) :=
  wlu h0 u0 0  Fuel rfl (vav h0)
def wfo (a0 : (List vab)) (a1 : (List vab)) (k : Bool → Option Res) : Option Res :=
  bif ((a0.length : Int) != (a1.length : Int)) then
    k false
  else
    vi7 a0 a1 false a0  0 (Sum.elim (fun z33 =>
      k z33.1) (fun _ =>
      k true))
theorem wrh {a0 : (List vab)} {a1 : (List vab)} (h0 : a0.length < 9223372036854775807) {k : Bool → Option Res} : vwo a0 a1 k = wfo a0 a1 k := by
  rw [wdh]
  simp only [v6p, wfo, (wig h0), Sum.elim_inl, Sum.elim_inr]
def vkl (u0 : (List vaf)) (u1 : (List vaf)) (u2 : Bool) : List vaf → Nat → (((Bool × Int) ⊕ Int) → Option Res) → Option Res
  | [], i, k =>
    k (.inr (i : Int))
  | y :: l, i, k =>
    if 0 ≤ (i : Int) ∧ (i : Int) < (u1.length : Int) then
      vyt y (rd (Ty.zero tWrite) u1 (i : Int)) (fun y1 =>
        bif (!y1) then
          k (.inl (false, (i : Int)))
        else
          vkl u0 u1 u2 l (i + 1) k)
    else none
theorem wim {u0} {u1} {u2} (h0 : u0.length < 9223372036854775807) {K : (q22T ⊕ q22T) → Option Res} : ∀ (l : List vaf) (i : Nat)  (n : Nat), u0.drop i = l → l.length < n → vae vj6 n (u0, u1, u2, (i : Int)) K = vkl u0 u1 u2 l  i (Sum.elim (fun z => K (.inl (u0, u1, z.1, z.2))) (fun z => K (.inr (u0, u1, u2, z)))) := by
  intro l
  induction l with
  | nil =>
    intro i  n hd hn
    have hge := vax hd
    cases n with
    | zero => exact absurd hn (Nat.not_lt_zero _)
    | succ n => simp only [vae, vj6, vkl, hge, decide_false, cond_false, Sum.elim_inr, Sum.elim_inl]
  | cons y l ih =>
    intro i  n hd hn
    obtain ⟨hlt, hz, hd2, hw, hnn⟩ := vat hd h0
    have hy := van hd
    cases n with
    | zero => exact absurd hn (Nat.not_lt_zero _)
    | succ n =>
      have ih2 := ih (i + 1)  n hd2 (Nat.lt_of_succ_lt_succ hn)
      simp only [vae, vj6, vkl, hlt, hz, decide_true, cond_true, and_self, if_true, hy, hw, hnn, Sum.elim_inl, Sum.elim_inr, ih2]
theorem whp {u0} {u1} {u2} (h0 : u0.length < 9223372036854775807) {K : (q22T ⊕ q22T) → Option Res}  : vae vj6 Fuel (u0, u1, u2, (0 : Int)) K = vkl u0 u1 u2 u0  0 (Sum.elim (fun z => K (.inl (u0, u1, z.1, z.2))) (fun z => K (.inr (u0, u1, u2, z)))) :=
  wim h0 u0 0  Fuel rfl (vav h0)
def wee (a0 : (List vaf)) (a1 : (List vaf)) (k : Bool → Option Res) : Option Res :=
  bif ((a0.length : Int) != (a1.length : Int)) then
    k false
  else
    vkl a0 a1 false a0  0 (Sum.elim (fun z33 =>
      k z33.1) (fun _ =>
      k true))
theorem wrd {a0 : (List vaf)} {a1 : (List vaf)} (h0 : a0.length < 9223372036854775807) {k : Bool → Option Res} : vv1 a0 a1 k = wee a0 a1 k := by
  rw [wgw]
  simp only [v8q, wee, (whp h0), Sum.elim_inl, Sum.elim_inr]
def vf9 (u0 : (List dTxn)) (u1 : (List dTxn)) (u2 : Bool) : List dTxn → Nat → (((Bool × Int) ⊕ Int) → Option Res) → Option Res
  | [], i, k =>
    k (.inr (i : Int))
  | y :: l, i, k =>
    if 0 ≤ (i : Int) ∧ (i : Int) < (u1.length : Int) then
      vrf y (rd (Ty.zero tTxn) u1 (i : Int)) (fun y1 =>
        bif (!y1) then
          k (.inl (false, (i : Int)))
        else
          vf9 u0 u1 u2 l (i + 1) k)
    else none
theorem wkv {u0} {u1} {u2} (h0 : u0.length < 9223372036854775807) {K : (q4T ⊕ q4T) → Option Res} : ∀ (l : List dTxn) (i : Nat)  (n : Nat), u0.drop i = l → l.length < n → vae vkv n (u0, u1, u2, (i : Int)) K = vf9 u0 u1 u2 l  i (Sum.elim (fun z => K (.inl (u0, u1, z.1, z.2))) (fun z => K (.inr (u0, u1, u2, z)))) := by
  intro l
  induction l with
  | nil =>
    intro i  n hd hn
    have hge := vax hd
    cases n with
    | zero => exact absurd hn (Nat.not_lt_zero _)
    | succ n => simp only [vae, vkv, vf9, hge, decide_false, cond_false, Sum.elim_inr, Sum.elim_inl]
  | cons y l ih =>
    intro i  n hd hn
    obtain ⟨hlt, hz, hd2, hw, hnn⟩ := vat hd h0
    have hy := van hd
    cases n with
    | zero => exact absurd hn (Nat.not_lt_zero _)
    | succ n =>
      have ih2 := ih (i + 1)  n hd2 (Nat.lt_of_succ_lt_succ hn)
      simp only [vae, vkv, vf9, hlt, hz, decide_true, cond_true, and_self, if_true, hy, hw, hnn, Sum.elim_inl, Sum.elim_inr, ih2]
theorem wil {u0} {u1} {u2} (h0 : u0.length < 9223372036854775807) {K : (q4T ⊕ q4T) → Option Res}  : vae vkv Fuel (u0, u1, u2, (0 : Int)) K = vf9 u0 u1 u2 u0  0 (Sum.elim (fun z => K (.inl (u0, u1, z.1, z.2))) (fun z => K (.inr (u0, u1, u2, z)))) :=
  wkv h0 u0 0  Fuel rfl (vav h0)
def v90 (a0 : (List dTxn)) (a1 : (List dTxn)) (k : Bool → Option Res) : Option Res :=
  bif ((a0.length : Int) != (a1.length : Int)) then
    k false
  else
    vf9 a0 a1 false a0  0 (Sum.elim (fun z33 =>
      k z33.1) (fun _ =>
      k true))
theorem won {a0 : (List dTxn)} {a1 : (List dTxn)} (h0 : a0.length < 9223372036854775807) {k : Bool → Option Res} : vob a0 a1 k = v90 a0 a1 k := by
  rw [wd4]
  simp only [v9a, v90, (wil h0), Sum.elim_inl, Sum.elim_inr]
def vlm (u0 : (List vab)) (u1 : (List vab)) (u2 : Bool) : List vab → Nat → (((Bool × Int) ⊕ Int) → Option Res) → Option Res
  | [], i, k =>
    k (.inr (i : Int))
  | y :: l, i, k =>
    if 0 ≤ (i : Int) ∧ (i : Int) < (u1.length : Int) then
      vye y (rd (Ty.zero tRange) u1 (i : Int)) (fun y1 =>
        bif (!y1) then
          k (.inl (false, (i : Int)))
        else
          vlm u0 u1 u2 l (i + 1) k)
    else none
theorem wlx {u0} {u1} {u2} (h0 : u0.length < 9223372036854775807) {K : (q0T ⊕ q0T) → Option Res} : ∀ (l : List vab) (i : Nat)  (n : Nat), u0.drop i = l → l.length < n → vae vkd n (u0, u1, u2, (i : Int)) K = vlm u0 u1 u2 l  i (Sum.elim (fun z => K (.inl (u0, u1, z.1, z.2))) (fun z => K (.inr (u0, u1, u2, z)))) := by
  intro l
  induction l with
  | nil =>
    intro i  n hd hn
    have hge := vax hd
    cases n with
    | zero => exact absurd hn (Nat.not_lt_zero _)
    | succ n => simp only [vae, vkd, vlm, hge, decide_false, cond_false, Sum.elim_inr, Sum.elim_inl]
  | cons y l ih =>
    intro i  n hd hn
    obtain ⟨hlt, hz, hd2, hw, hnn⟩ := vat hd h0
    have hy := van hd
    cases n with
    | zero => exact absurd hn (Nat.not_lt_zero _)
    | succ n =>
      have ih2 := ih (i + 1)  n hd2 (Nat.lt_of_succ_lt_succ hn)
      simp only [vae, vkd, vlm, hlt, hz, decide_true, cond_true, and_self, if_true, hy, hw, hnn, Sum.elim_inl, Sum.elim_inr, ih2]
theorem wi9 {u0} {u1} {u2} (h0 : u0.length < 9223372036854775807) {K : (q0T ⊕ q0T) → Option Res}  : vae vkd Fuel (u0, u1, u2, (0 : Int)) K = vlm u0 u1 u2 u0  0 (Sum.elim (fun z => K (.inl (u0, u1, z.1, z.2))) (fun z => K (.inr (u0, u1, u2, z)))) :=
  wlx h0 u0 0  Fuel rfl (vav h0)
def wc9 (a0 : (List vab)) (a1 : (List vab)) (k : Bool → Option Res) : Option Res :=
  bif ((a0.length : Int) != (a1.length : Int)) then
    k false
  else
    vlm a0 a1 false a0  0 (Sum.elim (fun z33 =>
      k z33.1) (fun _ =>
      k true))
theorem wth {a0 : (List vab)} {a1 : (List vab)} (h0 : a0.length < 9223372036854775807) {k : Bool → Option Res} : vkf a0 a1 k = wc9 a0 a1 k := by
  rw [wco]
  simp only [v7p, wc9, (wi9 h0), Sum.elim_inl, Sum.elim_inr]
def vig (u0 : (List vaa)) (u2 : Int) : List vaa → Int → Nat → (((Int × Int × Int) ⊕ (Int × Int)) → Option Res) → Option Res
  | [], s1, i, k =>
    k (.inr (s1, (i : Int)))
  | y :: l, s1, i, k =>
    vbk s1 (fun y1 =>
      bif (!(vas (y.1) y1)) then
        k (.inl (s1, (-1 : Int), (i : Int)))
      else
        vbk (IntKind.wrap .i64 (s1 + (1 : Int))) (fun y2 =>
          bif (!(vas (y.2.1) y2)) then
            k (.inl ((IntKind.wrap .i64 (s1 + (1 : Int))), (-1 : Int), (i : Int)))
          else
            bif (!(y.2.2.1 == (((IntKind.wrap .i64 ((IntKind.wrap .i64 (s1 + (1 : Int))) + (1 : Int))).tmod (3 : Int)) == (0 : Int)))) then
              k (.inl ((IntKind.wrap .i64 ((IntKind.wrap .i64 (s1 + (1 : Int))) + (1 : Int))), (-1 : Int), (i : Int)))
            else
              bif (y.2.2.2 != (IntKind.wrap .i64 ((IntKind.wrap .i64 ((IntKind.wrap .i64 (s1 + (1 : Int))) + (1 : Int))) + (1 : Int)))) then
                k (.inl ((IntKind.wrap .i64 ((IntKind.wrap .i64 ((IntKind.wrap .i64 (s1 + (1 : Int))) + (1 : Int))) + (1 : Int))), (-1 : Int), (i : Int)))
              else
                vig u0 u2 l (IntKind.wrap .i64 ((IntKind.wrap .i64 ((IntKind.wrap .i64 ((IntKind.wrap .i64 (s1 + (1 : Int))) + (1 : Int))) + (1 : Int))) + (1 : Int))) (i + 1) k))
theorem wk3 {u0} {u2} (h0 : u0.length < 9223372036854775807) {K : (q21T ⊕ q21T) → Option Res} : ∀ (l : List vaa) (i : Nat) (s1 : Int) (n : Nat), u0.drop i = l → l.length < n → vae vjw n (u0, s1, u2, (i : Int)) K = vig u0 u2 l s1 i (Sum.elim (fun z => K (.inl (u0, z.1, z.2.1, z.2.2))) (fun z => K (.inr (u0, z.1, u2, z.2)))) := by
  intro l
  induction l with
  | nil =>
    intro i s1 n hd hn
    have hge := vax hd
    cases n with
    | zero => exact absurd hn (Nat.not_lt_zero _)
    | succ n => simp only [vae, vjw, vig, hge, decide_false, cond_false, Sum.elim_inr, Sum.elim_inl]
  | cons y l ih =>
    intro i s1 n hd hn
    obtain ⟨hlt, hz, hd2, hw, hnn⟩ := vat hd h0
    have hy := van hd
    cases n with
    | zero => exact absurd hn (Nat.not_lt_zero _)
    | succ n =>
      have ih2 := fun (s1 : Int) => ih (i + 1) s1 n hd2 (Nat.lt_of_succ_lt_succ hn)
      simp only [vae, vjw, vig, hlt, hz, decide_true, cond_true, and_self, if_true, hy, hw, hnn, Sum.elim_inl, Sum.elim_inr, ih2]
theorem wls {u0} {u2} (h0 : u0.length < 9223372036854775807) {K : (q21T ⊕ q21T) → Option Res} {s1 : Int} : vae vjw Fuel (u0, s1, u2, (0 : Int)) K = vig u0 u2 u0 s1 0 (Sum.elim (fun z => K (.inl (u0, z.1, z.2.1, z.2.2))) (fun z => K (.inr (u0, z.1, u2, z.2)))) :=
  wk3 h0 u0 0 s1 Fuel rfl (vav h0)
def wec (a0 : (List vaa)) (a1 : Int) (k : Int → Option Res) : Option Res :=
  vig a0 (0 : Int) a0 a1 0 (Sum.elim (fun z33 =>
    k z33.2.1) (fun z34 =>
    k z34.1))
theorem wrx {a0 : (List vaa)} {a1 : Int} (h0 : a0.length < 9223372036854775807) {k : Int → Option Res} : vxf a0 a1 k = wec a0 a1 k := by
  rw [wdo]
  simp only [v6x, wec, (wls h0), Sum.elim_inl, Sum.elim_inr]
def vio (u0 : (List vab)) (u2 : Int) : List vab → Int → Nat → (((Int × Int × Int) ⊕ (Int × Int)) → Option Res) → Option Res
  | [], s1, i, k =>
    k (.inr (s1, (i : Int)))
  | y :: l, s1, i, k =>
    vbk s1 (fun y1 =>
      bif (!(vas (y.1) y1)) then
        k (.inl (s1, (-1 : Int), (i : Int)))
      else
        vbk (IntKind.wrap .i64 (s1 + (1 : Int))) (fun y2 =>
          bif (!(vas (y.2) y2)) then
            k (.inl ((IntKind.wrap .i64 (s1 + (1 : Int))), (-1 : Int), (i : Int)))
          else
            vio u0 u2 l (IntKind.wrap .i64 ((IntKind.wrap .i64 (s1 + (1 : Int))) + (1 : Int))) (i + 1) k))
theorem wjo {u0} {u2} (h0 : u0.length < 9223372036854775807) {K : (q3T ⊕ q3T) → Option Res} : ∀ (l : List vab) (i : Nat) (s1 : Int) (n : Nat), u0.drop i = l → l.length < n → vae vkc n (u0, s1, u2, (i : Int)) K = vio u0 u2 l s1 i (Sum.elim (fun z => K (.inl (u0, z.1, z.2.1, z.2.2))) (fun z => K (.inr (u0, z.1, u2, z.2)))) := by
  intro l
  induction l with
  | nil =>
    intro i s1 n hd hn
    have hge := vax hd
    cases n with
    | zero => exact absurd hn (Nat.not_lt_zero _)
    | succ n => simp only [vae, vkc, vio, hge, decide_false, cond_false, Sum.elim_inr, Sum.elim_inl]
  | cons y l ih =>
    intro i s1 n hd hn
    obtain ⟨hlt, hz, hd2, hw, hnn⟩ := vat hd h0
    have hy := van hd
    cases n with
    | zero => exact absurd hn (Nat.not_lt_zero _)
    | succ n =>
      have ih2 := fun (s1 : Int) => ih (i + 1) s1 n hd2 (Nat.lt_of_succ_lt_succ hn)
      simp only [vae, vkc, vio, hlt, hz, decide_true, cond_true, and_self, if_true, hy, hw, hnn, Sum.elim_inl, Sum.elim_inr, ih2]
theorem wje {u0} {u2} (h0 : u0.length < 9223372036854775807) {K : (q3T ⊕ q3T) → Option Res} {s1 : Int} : vae vkc Fuel (u0, s1, u2, (0 : Int)) K = vio u0 u2 u0 s1 0 (Sum.elim (fun z => K (.inl (u0, z.1, z.2.1, z.2.2))) (fun z => K (.inr (u0, z.1, u2, z.2)))) :=
  wjo h0 u0 0 s1 Fuel rfl (vav h0)
def wdz (a0 : (List vab)) (a1 : Int) (k : Int → Option Res) : Option Res :=
  vio a0 (0 : Int) a0 a1 0 (Sum.elim (fun z33 =>
    k z33.2.1) (fun z34 =>
    k z34.1))
theorem wqo {a0 : (List vab)} {a1 : Int} (h0 : a0.length < 9223372036854775807) {k : Int → Option Res} : vrb a0 a1 k = wdz a0 a1 k := by
  rw [wdi]
  simp only [v8p, wdz, (wje h0), Sum.elim_inl, Sum.elim_inr]
def viv (u0 : (List vaf)) (u2 : Int) : List vaf → Int → Nat → (((Int × Int × Int) ⊕ (Int × Int)) → Option Res) → Option Res
  | [], s1, i, k =>
    k (.inr (s1, (i : Int)))
  | y :: l, s1, i, k =>
    vbk s1 (fun y1 =>
      bif (!(vas (y.1) y1)) then
        k (.inl (s1, (-1 : Int), (i : Int)))
      else
        vbk (IntKind.wrap .i64 (s1 + (1 : Int))) (fun y2 =>
          bif (!(vas (y.2.1) y2)) then
            k (.inl ((IntKind.wrap .i64 (s1 + (1 : Int))), (-1 : Int), (i : Int)))
          else
            bif (!(y.2.2 == (((IntKind.wrap .i64 ((IntKind.wrap .i64 (s1 + (1 : Int))) + (1 : Int))).tmod (3 : Int)) == (0 : Int)))) then
              k (.inl ((IntKind.wrap .i64 ((IntKind.wrap .i64 (s1 + (1 : Int))) + (1 : Int))), (-1 : Int), (i : Int)))
            else
              viv u0 u2 l (IntKind.wrap .i64 ((IntKind.wrap .i64 ((IntKind.wrap .i64 (s1 + (1 : Int))) + (1 : Int))) + (1 : Int))) (i + 1) k))
theorem wjj {u0} {u2} (h0 : u0.length < 9223372036854775807) {K : (q26T ⊕ q26T) → Option Res} : ∀ (l : List vaf) (i : Nat) (s1 : Int) (n : Nat), u0.drop i = l → l.length < n → vae vjq n (u0, s1, u2, (i : Int)) K = viv u0 u2 l s1 i (Sum.elim (fun z => K (.inl (u0, z.1, z.2.1, z.2.2))) (fun z => K (.inr (u0, z.1, u2, z.2)))) := by
  intro l
  induction l with
  | nil =>
    intro i s1 n hd hn
    have hge := vax hd
    cases n with
    | zero => exact absurd hn (Nat.not_lt_zero _)
    | succ n => simp only [vae, vjq, viv, hge, decide_false, cond_false, Sum.elim_inr, Sum.elim_inl]
  | cons y l ih =>
    intro i s1 n hd hn
    obtain ⟨hlt, hz, hd2, hw, hnn⟩ := vat hd h0
    have hy := van hd
    cases n with
    | zero => exact absurd hn (Nat.not_lt_zero _)
    | succ n =>
      have ih2 := fun (s1 : Int) => ih (i + 1) s1 n hd2 (Nat.lt_of_succ_lt_succ hn)
      simp only [vae, vjq, viv, hlt, hz, decide_true, cond_true, and_self, if_true, hy, hw, hnn, Sum.elim_inl, Sum.elim_inr, ih2]
theorem wlm {u0} {u2} (h0 : u0.length < 9223372036854775807) {K : (q26T ⊕ q26T) → Option Res} {s1 : Int} : vae vjq Fuel (u0, s1, u2, (0 : Int)) K = viv u0 u2 u0 s1 0 (Sum.elim (fun z => K (.inl (u0, z.1, z.2.1, z.2.2))) (fun z => K (.inr (u0, z.1, u2, z.2)))) :=
  wjj h0 u0 0 s1 Fuel rfl (vav h0)
def wf0 (a0 : (List vaf)) (a1 : Int) (k : Int → Option Res) : Option Res :=
  viv a0 (0 : Int) a0 a1 0 (Sum.elim (fun z33 =>
    k z33.2.1) (fun z34 =>
    k z34.1))
theorem wsm {a0 : (List vaf)} {a1 : Int} (h0 : a0.length < 9223372036854775807) {k : Int → Option Res} : vst a0 a1 k = wf0 a0 a1 k := by
  rw [wfb]
  simp only [v8d, wf0, (wlm h0), Sum.elim_inl, Sum.elim_inr]
def vir (u0 : (List dTxn)) (u2 : Int) : List dTxn → Int → Nat → (((Int × Int × Int) ⊕ (Int × Int)) → Option Res) → Option Res
  | [], s1, i, k =>
    k (.inr (s1, (i : Int)))
  | y :: l, s1, i, k =>
    bif (y.1 != s1) then
      k (.inl (s1, (-1 : Int), (i : Int)))
    else
      bif (y.2.1 != (IntKind.wrap .i64 (s1 + (1 : Int)))) then
        k (.inl ((IntKind.wrap .i64 (s1 + (1 : Int))), (-1 : Int), (i : Int)))
      else
        bif (y.2.2.1 != (IntKind.wrap .i64 ((IntKind.wrap .i64 (s1 + (1 : Int))) + (1 : Int)))) then
          k (.inl ((IntKind.wrap .i64 ((IntKind.wrap .i64 (s1 + (1 : Int))) + (1 : Int))), (-1 : Int), (i : Int)))
        else
          bif (y.2.2.2.1 != (IntKind.wrap .i64 ((IntKind.wrap .i64 ((IntKind.wrap .i64 (s1 + (1 : Int))) + (1 : Int))) + (1 : Int)))) then
            k (.inl ((IntKind.wrap .i64 ((IntKind.wrap .i64 ((IntKind.wrap .i64 (s1 + (1 : Int))) + (1 : Int))) + (1 : Int))), (-1 : Int), (i : Int)))
          else
            vrb y.2.2.2.2.1 (IntKind.wrap .i64 ((IntKind.wrap .i64 ((IntKind.wrap .i64 ((IntKind.wrap .i64 (s1 + (1 : Int))) + (1 : Int))) + (1 : Int))) + (1 : Int))) (fun y1 =>
              bif (decide (y1 < (0 : Int))) then
                k (.inl (y1, (-1 : Int), (i : Int)))
              else
                vst y.2.2.2.2.2.1 y1 (fun y2 =>
                  bif (decide (y2 < (0 : Int))) then
                    k (.inl (y2, (-1 : Int), (i : Int)))
                  else
                    bif (!(y.2.2.2.2.2.2.1 == ((y2.tmod (3 : Int)) == (0 : Int)))) then
                      k (.inl (y2, (-1 : Int), (i : Int)))
                    else
                      vbk (IntKind.wrap .i64 (y2 + (1 : Int))) (fun y3 =>
                        bif (!(vas (y.2.2.2.2.2.2.2) y3)) then
                          k (.inl ((IntKind.wrap .i64 (y2 + (1 : Int))), (-1 : Int), (i : Int)))
                        else
                          vir u0 u2 l (IntKind.wrap .i64 ((IntKind.wrap .i64 (y2 + (1 : Int))) + (1 : Int))) (i + 1) k)))
theorem wi1 {u0} {u2} (h0 : u0.length < 9223372036854775807) {K : (q8T ⊕ q8T) → Option Res} : ∀ (l : List dTxn) (i : Nat) (s1 : Int) (n : Nat), u0.drop i = l → l.length < n → vae vkr n (u0, s1, u2, (i : Int)) K = vir u0 u2 l s1 i (Sum.elim (fun z => K (.inl (u0, z.1, z.2.1, z.2.2))) (fun z => K (.inr (u0, z.1, u2, z.2)))) := by
  intro l
  induction l with
  | nil =>
    intro i s1 n hd hn
    have hge := vax hd
    cases n with
    | zero => exact absurd hn (Nat.not_lt_zero _)
    | succ n => simp only [vae, vkr, vir, hge, decide_false, cond_false, Sum.elim_inr, Sum.elim_inl]
  | cons y l ih =>
    intro i s1 n hd hn
    obtain ⟨hlt, hz, hd2, hw, hnn⟩ := vat hd h0
    have hy := van hd
    cases n with
    | zero => exact absurd hn (Nat.not_lt_zero _)
    | succ n =>
      have ih2 := fun (s1 : Int) => ih (i + 1) s1 n hd2 (Nat.lt_of_succ_lt_succ hn)
      simp only [vae, vkr, vir, hlt, hz, decide_true, cond_true, and_self, if_true, hy, hw, hnn, Sum.elim_inl, Sum.elim_inr, ih2]
theorem wh5 {u0} {u2} (h0 : u0.length < 9223372036854775807) {K : (q8T ⊕ q8T) → Option Res} {s1 : Int} : vae vkr Fuel (u0, s1, u2, (0 : Int)) K = vir u0 u2 u0 s1 0 (Sum.elim (fun z => K (.inl (u0, z.1, z.2.1, z.2.2))) (fun z => K (.inr (u0, z.1, u2, z.2)))) :=
  wi1 h0 u0 0 s1 Fuel rfl (vav h0)
def wgi (a0 : (List dTxn)) (a1 : Int) (k : Int → Option Res) : Option Res :=
  vir a0 (0 : Int) a0 a1 0 (Sum.elim (fun z33 =>
    k z33.2.1) (fun z34 =>
    k z34.1))
theorem wqu {a0 : (List dTxn)} {a1 : Int} (h0 : a0.length < 9223372036854775807) {k : Int → Option Res} : vqc a0 a1 k = wgi a0 a1 k := by
  rw [wer]
  simp only [v72, wgi, (wh5 h0), Sum.elim_inl, Sum.elim_inr]
def vin (u0 : (List vab)) (u2 : Int) : List vab → Int → Nat → (((Int × Int × Int) ⊕ (Int × Int)) → Option Res) → Option Res
  | [], s1, i, k =>
    k (.inr (s1, (i : Int)))
  | y :: l, s1, i, k =>
    vbk s1 (fun y1 =>
      bif (!(vas (y.1) y1)) then
        k (.inl (s1, (-1 : Int), (i : Int)))
      else
        vbk (IntKind.wrap .i64 (s1 + (1 : Int))) (fun y2 =>
          bif (!(vas (y.2) y2)) then
            k (.inl ((IntKind.wrap .i64 (s1 + (1 : Int))), (-1 : Int), (i : Int)))
          else
            vin u0 u2 l (IntKind.wrap .i64 ((IntKind.wrap .i64 (s1 + (1 : Int))) + (1 : Int))) (i + 1) k))
theorem wkx {u0} {u2} (h0 : u0.length < 9223372036854775807) {K : (q3T ⊕ q3T) → Option Res} : ∀ (l : List vab) (i : Nat) (s1 : Int) (n : Nat), u0.drop i = l → l.length < n → vae vkz n (u0, s1, u2, (i : Int)) K = vin u0 u2 l s1 i (Sum.elim (fun z => K (.inl (u0, z.1, z.2.1, z.2.2))) (fun z => K (.inr (u0, z.1, u2, z.2)))) := by
  intro l
  induction l with
  | nil =>
    intro i s1 n hd hn
    have hge := vax hd
    cases n with
    | zero => exact absurd hn (Nat.not_lt_zero _)
    | succ n => simp only [vae, vkz, vin, hge, decide_false, cond_false, Sum.elim_inr, Sum.elim_inl]
  | cons y l ih =>
    intro i s1 n hd hn
    obtain ⟨hlt, hz, hd2, hw, hnn⟩ := vat hd h0
    have hy := van hd
    cases n with
    | zero => exact absurd hn (Nat.not_lt_zero _)
    | succ n =>
      have ih2 := fun (s1 : Int) => ih (i + 1) s1 n hd2 (Nat.lt_of_succ_lt_succ hn)
      simp only [vae, vkz, vin, hlt, hz, decide_true, cond_true, and_self, if_true, hy, hw, hnn, Sum.elim_inl, Sum.elim_inr, ih2]
theorem whq {u0} {u2} (h0 : u0.length < 9223372036854775807) {K : (q3T ⊕ q3T) → Option Res} {s1 : Int} : vae vkz Fuel (u0, s1, u2, (0 : Int)) K = vin u0 u2 u0 s1 0 (Sum.elim (fun z => K (.inl (u0, z.1, z.2.1, z.2.2))) (fun z => K (.inr (u0, z.1, u2, z.2)))) :=
  wkx h0 u0 0 s1 Fuel rfl (vav h0)
def wcb (a0 : (List vab)) (a1 : Int) (k : Int → Option Res) : Option Res :=
  vin a0 (0 : Int) a0 a1 0 (Sum.elim (fun z33 =>
    k z33.2.1) (fun z34 =>
    k z34.1))
theorem wto {a0 : (List vab)} {a1 : Int} (h0 : a0.length < 9223372036854775807) {k : Int → Option Res} : vox a0 a1 k = wcb a0 a1 k := by
  rw [wfh]
  simp only [v7m, wcb, (whq h0), Sum.elim_inl, Sum.elim_inr]
def vee (u0 : Bool) (u1 : Int) (u2 : Int) (u3 : Int) (u4 : (List vab)) (u5 : (List vaa)) (u6 : (List dTxn)) (u7 : (List dTxn)) (u8 : (List dTxn)) (k : Bool → Option Res) : Option Res :=
    vn5 ((u5, (u6, (u7, (u2, u3)))), u8) (1 : Int) (fun y1 =>
      bif (decide (y1 < (0 : Int))) then
        k false
      else
        vox u4 y1 (fun y2 =>
          bif (decide (y2 < (0 : Int))) then
            k false
          else
            bif (y2 != u1) then
              k false
            else
              k true))
theorem vu5 {u0} {u1} {u2} {u3} {u4} {u5} {u6} {u7} {u8}  {K : q30T → Option Res} : vcy (u0, u1, u2, u3, u4, u5, u6, u7, u8) K = vee u0 u1 u2 u3 u4 u5 u6 u7 u8 (fun z => K (z, u1, u2, u3, u4, u5, u6, u7, u8)) := by
  simp only [vcy, vee, Sum.elim_inl, Sum.elim_inr]
def vea (u0 : Int) (u1 : Bool) (u2 : Int) (u3 : (List vaa)) (u4 : (List dTxn)) (u5 : (List dTxn)) (u6 : Int) (u7 : Int) (u8 : (List dTxn)) (u9 : ByteArray) (u10 : ByteArray) (u11 : Int) (u12 : Int) (u13 : (List vab)) (u14 : Int) (u15 : Int) (u16 : (List vab)) (u17 : (List vaa)) (u18 : (List dTxn)) (u19 : (List dTxn)) (u20 : (List dTxn)) (u21 : (List vaa)) (u22 : (List dTxn)) (u23 : (List dTxn)) (u24 : (List dTxn)) (k : (q27T ⊕ q27T) → Option Res) : Option Res :=
    vo6 u14 u15 (1 : Int) u21 u22 u23 u24 (fun y1 =>
      vvr y1.1 u16 (fun y2 =>
        vn5 ((y1.2.1, (y1.2.2.1, (y1.2.2.2.1, (u14, u15)))), y1.2.2.2.2) (1 : Int) (fun y3 =>
          bif (decide (y3 < (0 : Int))) then
            k (.inl (false, y2.2, y1.2.1, y1.2.2.1, y1.2.2.2.1, y1.2.2.2.2))
          else
            vox y2.2 y3 (fun y4 =>
              bif (decide (y4 < (0 : Int))) then
                k (.inl (false, y2.2, y1.2.1, y1.2.2.1, y1.2.2.2.1, y1.2.2.2.2))
              else
                bif (y4 != y2.1) then
                  k (.inl (false, y2.2, y1.2.1, y1.2.2.1, y1.2.2.2.1, y1.2.2.2.2))
                else
                  vhl ((u3, (u4, (u5, (u6, u7)))), u8) (fun y5 =>
                    viw (u9, u10) (fun y6 =>
                      vpy ((y5.2.2.1, (y5.2.2.2.1, (y5.2.2.2.2.1, (y5.1, y5.2.1)))), y5.2.2.2.2.2) u0 y6 (fun y7 =>
                        vft ((y7.2.2.2.1, (y7.2.2.2.2.1, (y7.2.2.2.2.2.1, (y7.1, y7.2.1)))), y7.2.2.2.2.2.2.1) ((u17, (u18, (u19, (u11, u12)))), u20) (fun y8 =>
                          bif (!y8) then
                            k (.inl (false, y2.2, y1.2.1, y1.2.2.1, y1.2.2.2.1, y1.2.2.2.2))
                          else
                            vkf y7.2.2.2.2.2.2.2 u13 (fun y9 =>
                              bif (!y9) then
                                k (.inl (false, y2.2, y1.2.1, y1.2.2.1, y1.2.2.2.1, y1.2.2.2.2))
                              else
                                bif (y7.2.2.1 != u2) then
                                  k (.inl (false, y2.2, y1.2.1, y1.2.2.1, y1.2.2.2.1, y1.2.2.2.2))
                                else
                                  vee u1 y2.1 u14 u15 y2.2 y1.2.1 y1.2.2.1 y1.2.2.2.1 y1.2.2.2.2 (fun z10 =>
                                    k (.inr (z10, y2.2, y1.2.1, y1.2.2.1, y1.2.2.2.1, y1.2.2.2.2))))))))))))
theorem vuz {u0} {u1} {u2} {u3} {u4} {u5} {u6} {u7} {u8} {u9} {u10} {u11} {u12} {u13} {u14} {u15} {u16} {u17} {u18} {u19} {u20} {u21} {u22} {u23} {u24}  {K : (q41T ⊕ q29T) → Option Res} : vcu (u0, u1, u2, u3, u4, u5, u6, u7, u8, u9, u10, u11, u12, u13, u14, u15, u16, u17, u18, u19, u20, u21, u22, u23, u24) K = vea u0 u1 u2 u3 u4 u5 u6 u7 u8 u9 u10 u11 u12 u13 u14 u15 u16 u17 u18 u19 u20 u21 u22 u23 u24 (Sum.elim (fun z => K (.inl (u0, z.1, u2, u3, u4, u5, u6, u7, u8, u9, u10, u11, u12, u13, u14, u15, z.2.1, u17, u18, u19, u20, z.2.2.1, z.2.2.2.1, z.2.2.2.2.1, z.2.2.2.2.2))) (fun z => K (.inr (z.1, u14, u15, z.2.1, z.2.2.1, z.2.2.2.1, z.2.2.2.2.1, z.2.2.2.2.2)))) := by
  simp only [vcu, vea, vu5, Sum.elim_inl, Sum.elim_inr]
def ved (u0 : Int) (u1 : Bool) (u2 : Int) (u3 : Int) (u4 : (List vaa)) (u5 : (List dTxn)) (u6 : (List dTxn)) (u7 : Int) (u8 : Int) (u9 : (List dTxn)) (u10 : ByteArray) (u11 : ByteArray) (u12 : Int) (u13 : Int) (u14 : (List vab)) (u15 : Int) (u16 : Int) (u17 : Int) (u18 : Int) (u19 : (List vab)) (u20 : (List vaa)) (u21 : (List dTxn)) (u22 : (List dTxn)) (u23 : (List dTxn)) (u24 : (List vaa)) (u25 : (List dTxn)) (u26 : (List dTxn)) (u27 : (List dTxn)) (u28 : (List vaa)) (u29 : (List dTxn)) (u30 : (List dTxn)) (u31 : (List dTxn)) (k : ((Bool × (List vaa) × (List dTxn) × (List dTxn) × (List dTxn)) ⊕ (q27T ⊕ q27T)) → Option Res) : Option Res :=
    vhl ((u4, (u5, (u6, (u7, u8)))), u9) (fun y1 =>
      vft ((u24, (u25, (u26, (u15, u16)))), u27) ((y1.2.2.1, (y1.2.2.2.1, (y1.2.2.2.2.1, (y1.1, y1.2.1)))), y1.2.2.2.2.2) (fun y2 =>
        bif (!y2) then
          k (.inl (false, u24, u25, u26, u27))
        else
          vo6 u15 u16 (1 : Int) u24 u25 u26 u27 (fun y3 =>
            bif (decide (y3.1 < (0 : Int))) then
              k (.inl (false, y3.2.1, y3.2.2.1, y3.2.2.2.1, y3.2.2.2.2))
            else
              vft ((u28, (u29, (u30, (u17, u18)))), u31) ((u20, (u21, (u22, (u12, u13)))), u23) (fun y4 =>
                bif (!y4) then
                  k (.inl (false, y3.2.1, y3.2.2.1, y3.2.2.2.1, y3.2.2.2.2))
                else
                  vkf u19 u14 (fun y5 =>
                    bif (!y5) then
                      k (.inl (false, y3.2.1, y3.2.2.1, y3.2.2.2.1, y3.2.2.2.2))
                    else
                      bif (u3 != u2) then
                        k (.inl (false, y3.2.1, y3.2.2.1, y3.2.2.2.1, y3.2.2.2.2))
                      else
                        vea u0 u1 u2 u4 u5 u6 u7 u8 u9 u10 u11 u12 u13 u14 u17 u18 u19 u20 u21 u22 u23 u28 u29 u30 u31 (Sum.elim (fun z6 =>
                          k (.inr (.inl (z6.1, z6.2.1, z6.2.2.1, z6.2.2.2.1, z6.2.2.2.2.1, z6.2.2.2.2.2)))) (fun z7 =>
                          k (.inr (.inr (z7.1, z7.2.1, z7.2.2.1, z7.2.2.2.1, z7.2.2.2.2.1, z7.2.2.2.2.2))))))))))
theorem vuy {u0} {u1} {u2} {u3} {u4} {u5} {u6} {u7} {u8} {u9} {u10} {u11} {u12} {u13} {u14} {u15} {u16} {u17} {u18} {u19} {u20} {u21} {u22} {u23} {u24} {u25} {u26} {u27} {u28} {u29} {u30} {u31}  {K : (q42T ⊕ (q41T ⊕ q29T)) → Option Res} : vct (u0, u1, u2, u3, u4, u5, u6, u7, u8, u9, u10, u11, u12, u13, u14, u15, u16, u17, u18, u19, u20, u21, u22, u23, u24, u25, u26, u27, u28, u29, u30, u31) K = ved u0 u1 u2 u3 u4 u5 u6 u7 u8 u9 u10 u11 u12 u13 u14 u15 u16 u17 u18 u19 u20 u21 u22 u23 u24 u25 u26 u27 u28 u29 u30 u31 (Sum.elim (fun z => K (.inl (u0, z.1, u2, u3, u4, u5, u6, u7, u8, u9, u10, u11, u12, u13, u14, u15, u16, u17, u18, u19, u20, u21, u22, u23, z.2.1, z.2.2.1, z.2.2.2.1, z.2.2.2.2, u28, u29, u30, u31))) (Sum.elim (fun z => K (.inr (.inl (u0, z.1, u2, u4, u5, u6, u7, u8, u9, u10, u11, u12, u13, u14, u17, u18, z.2.1, u20, u21, u22, u23, z.2.2.1, z.2.2.2.1, z.2.2.2.2.1, z.2.2.2.2.2)))) (fun z => K (.inr (.inr (z.1, u17, u18, z.2.1, z.2.2.1, z.2.2.2.1, z.2.2.2.2.1, z.2.2.2.2.2)))))) := by
  simp only [vct, ved, vuz, Sum.elim_inl, Sum.elim_inr]
def web (a0 : vbb) (a1 : Int) (a2 : vab) (k : Bool → Option Res) : Option Res :=
  vw1 a0 (1048576 : Int) (fun y33 =>
    bif (decide (y33 < (0 : Int))) then
      k true
    else
      vqo a2 y33 (fun y34 =>
        bif (decide (y34 < (0 : Int))) then
          k true
        else
          vhl a0 (fun y35 =>
            viw a2 (fun y36 =>
              vxg ((y35.2.2.1, (y35.2.2.2.1, (y35.2.2.2.2.1, (y35.1, y35.2.1)))), y35.2.2.2.2.2) a1 y36 (fun y37 =>
                vhl a0 (fun y38 =>
                  viw a2 (fun y39 =>
                    vpy ((y38.2.2.1, (y38.2.2.2.1, (y38.2.2.2.2.1, (y38.1, y38.2.1)))), y38.2.2.2.2.2) a1 y39 (fun y40 =>
                      vft ((y40.2.2.2.1, (y40.2.2.2.2.1, (y40.2.2.2.2.2.1, (y40.1, y40.2.1)))), y40.2.2.2.2.2.2.1) ((y37.2.2.2.1, (y37.2.2.2.2.1, (y37.2.2.2.2.2.1, (y37.1, y37.2.1)))), y37.2.2.2.2.2.2.1) (fun y41 =>
                        bif (!y41) then
                          k false
                        else
                          vkf y40.2.2.2.2.2.2.2 y37.2.2.2.2.2.2.2 (fun y42 =>
                            bif (!y42) then
                              k false
                            else
                              bif (y40.2.2.1 != y37.2.2.1) then
                                k false
                              else
                                ved a1 false y37.2.2.1 y40.2.2.1 a0.1.1 a0.1.2.1 a0.1.2.2.1 a0.1.2.2.2.1 a0.1.2.2.2.2 a0.2 a2.1 a2.2 y37.1 y37.2.1 y37.2.2.2.2.2.2.2 y38.1 y38.2.1 y40.1 y40.2.1 y40.2.2.2.2.2.2.2 y37.2.2.2.1 y37.2.2.2.2.1 y37.2.2.2.2.2.1 y37.2.2.2.2.2.2.1 y38.2.2.1 y38.2.2.2.1 y38.2.2.2.2.1 y38.2.2.2.2.2 y40.2.2.2.1 y40.2.2.2.2.1 y40.2.2.2.2.2.1 y40.2.2.2.2.2.2.1 (Sum.elim (fun z43 =>
                                  k z43.1) (Sum.elim (fun z44 =>
                                  k z44.1) (fun z45 =>
                                  k z45.1)))))))))))))
theorem wq7 {a0 : vbb} {a1 : Int} {a2 : vab}  {k : Bool → Option Res} : v2j a0 a1 a2 k = web a0 a1 a2 k := by
  rw [wfs]
  simp only [v8v, web, vuy, Sum.elim_inl, Sum.elim_inr]
end
end Go.VE
