/- Loops told as recursions over what is left; written by gen.py. -/
import Derived.Test.YteolgjmeigifbaaPutKeyN
import Derived.Test.YteolgjmeigifbaaP1
namespace Go.VE
noncomputable section
set_option linter.unusedVariables false
set_option linter.unusedSimpArgs false
set_option maxRecDepth 100000
def vl3 (u0 : (List vac)) (u2 : Int) : List vac → Int → Nat → (((Int × Int × Int) ⊕ (Int × Int)) → Option Res) → Option Res
  | [], s1, i, k =>
    k (.inr (s1, (i : Int)))
  | y :: l, s1, i, k =>
    vv1 y s1 (fun y1 =>
      bif (decide (y1 < (0 : Int))) then
        k (.inl (y1, (-1 : Int), (i : Int)))
      else
        vl3 u0 u2 l y1 (i + 1) k)
theorem we1 {u0} {u2} (h0 : u0.length < 9223372036854775807) {K : (q10T ⊕ q10T) → Option Res} : ∀ (l : List vac) (i : Nat) (s1 : Int) (n : Nat), u0.drop i = l → l.length < n → vae vjk n (u0, s1, u2, (i : Int)) K = vl3 u0 u2 l s1 i (Sum.elim (fun z => K (.inl (u0, z.1, z.2.1, z.2.2))) (fun z => K (.inr (u0, z.1, u2, z.2)))) := by
  intro l
  induction l with
  | nil =>
    intro i s1 n hd hn
    have hge := vbb hd
    cases n with
    | zero => exact absurd hn (Nat.not_lt_zero _)
    | succ n => simp only [vae, vjk, vl3, hge, decide_false, cond_false, Sum.elim_inr, Sum.elim_inl]
  | cons y l ih =>
    intro i s1 n hd hn
    obtain ⟨hlt, hz, hd2, hw, hnn⟩ := vay hd h0
    have hy := vat hd
    cases n with
    | zero => exact absurd hn (Nat.not_lt_zero _)
    | succ n =>
      have ih2 := fun (s1 : Int) => ih (i + 1) s1 n hd2 (Nat.lt_of_succ_lt_succ hn)
      simp only [vae, vjk, vl3, hlt, hz, decide_true, cond_true, and_self, if_true, hy, hw, hnn, Sum.elim_inl, Sum.elim_inr, ih2]
theorem wc1 {u0} {u2} (h0 : u0.length < 9223372036854775807) {K : (q10T ⊕ q10T) → Option Res} {s1 : Int} : vae vjk Fuel (u0, s1, u2, (0 : Int)) K = vl3 u0 u2 u0 s1 0 (Sum.elim (fun z => K (.inl (u0, z.1, z.2.1, z.2.2))) (fun z => K (.inr (u0, z.1, u2, z.2)))) :=
  we1 h0 u0 0 s1 Fuel rfl (vaz h0)
def vln (u0 : (List vag)) (u2 : Int) : List vag → Int → Nat → (((Int × Int × Int) ⊕ (Int × Int)) → Option Res) → Option Res
  | [], s1, i, k =>
    k (.inr (s1, (i : Int)))
  | y :: l, s1, i, k =>
    vtm y s1 (fun y1 =>
      bif (decide (y1 < (0 : Int))) then
        k (.inl (y1, (-1 : Int), (i : Int)))
      else
        vln u0 u2 l y1 (i + 1) k)
theorem wcv {u0} {u2} (h0 : u0.length < 9223372036854775807) {K : (q2T ⊕ q2T) → Option Res} : ∀ (l : List vag) (i : Nat) (s1 : Int) (n : Nat), u0.drop i = l → l.length < n → vae vjm n (u0, s1, u2, (i : Int)) K = vln u0 u2 l s1 i (Sum.elim (fun z => K (.inl (u0, z.1, z.2.1, z.2.2))) (fun z => K (.inr (u0, z.1, u2, z.2)))) := by
  intro l
  induction l with
  | nil =>
    intro i s1 n hd hn
    have hge := vbb hd
    cases n with
    | zero => exact absurd hn (Nat.not_lt_zero _)
    | succ n => simp only [vae, vjm, vln, hge, decide_false, cond_false, Sum.elim_inr, Sum.elim_inl]
  | cons y l ih =>
    intro i s1 n hd hn
    obtain ⟨hlt, hz, hd2, hw, hnn⟩ := vay hd h0
    have hy := vat hd
    cases n with
    | zero => exact absurd hn (Nat.not_lt_zero _)
    | succ n =>
      have ih2 := fun (s1 : Int) => ih (i + 1) s1 n hd2 (Nat.lt_of_succ_lt_succ hn)
      simp only [vae, vjm, vln, hlt, hz, decide_true, cond_true, and_self, if_true, hy, hw, hnn, Sum.elim_inl, Sum.elim_inr, ih2]
theorem wca {u0} {u2} (h0 : u0.length < 9223372036854775807) {K : (q2T ⊕ q2T) → Option Res} {s1 : Int} : vae vjm Fuel (u0, s1, u2, (0 : Int)) K = vln u0 u2 u0 s1 0 (Sum.elim (fun z => K (.inl (u0, z.1, z.2.1, z.2.2))) (fun z => K (.inr (u0, z.1, u2, z.2)))) :=
  wcv h0 u0 0 s1 Fuel rfl (vaz h0)
def vlx (u0 : (List vaa)) (u2 : Int) : List vaa → Int → Nat → (((Int × Int × Int) ⊕ (Int × Int)) → Option Res) → Option Res
  | [], s1, i, k =>
    k (.inr (s1, (i : Int)))
  | y :: l, s1, i, k =>
    vod y s1 (fun y1 =>
      bif (decide (y1 < (0 : Int))) then
        k (.inl (y1, (-1 : Int), (i : Int)))
      else
        vlx u0 u2 l y1 (i + 1) k)
theorem wc4 {u0} {u2} (h0 : u0.length < 9223372036854775807) {K : (q15T ⊕ q15T) → Option Res} : ∀ (l : List vaa) (i : Nat) (s1 : Int) (n : Nat), u0.drop i = l → l.length < n → vae vj3 n (u0, s1, u2, (i : Int)) K = vlx u0 u2 l s1 i (Sum.elim (fun z => K (.inl (u0, z.1, z.2.1, z.2.2))) (fun z => K (.inr (u0, z.1, u2, z.2)))) := by
  intro l
  induction l with
  | nil =>
    intro i s1 n hd hn
    have hge := vbb hd
    cases n with
    | zero => exact absurd hn (Nat.not_lt_zero _)
    | succ n => simp only [vae, vj3, vlx, hge, decide_false, cond_false, Sum.elim_inr, Sum.elim_inl]
  | cons y l ih =>
    intro i s1 n hd hn
    obtain ⟨hlt, hz, hd2, hw, hnn⟩ := vay hd h0
    have hy := vat hd
    cases n with
    | zero => exact absurd hn (Nat.not_lt_zero _)
    | succ n =>
      have ih2 := fun (s1 : Int) => ih (i + 1) s1 n hd2 (Nat.lt_of_succ_lt_succ hn)
      simp only [vae, vj3, vlx, hlt, hz, decide_true, cond_true, and_self, if_true, hy, hw, hnn, Sum.elim_inl, Sum.elim_inr, ih2]
theorem wdj {u0} {u2} (h0 : u0.length < 9223372036854775807) {K : (q15T ⊕ q15T) → Option Res} {s1 : Int} : vae vj3 Fuel (u0, s1, u2, (0 : Int)) K = vlx u0 u2 u0 s1 0 (Sum.elim (fun z => K (.inl (u0, z.1, z.2.1, z.2.2))) (fun z => K (.inr (u0, z.1, u2, z.2)))) :=
  wc4 h0 u0 0 s1 Fuel rfl (vaz h0)
def vl1 (u0 : (List dTxn)) (u2 : Int) : List dTxn → Int → Nat → (((Int × Int × Int) ⊕ (Int × Int)) → Option Res) → Option Res
  | [], s1, i, k =>
    k (.inr (s1, (i : Int)))
  | y :: l, s1, i, k =>
    vv3 y s1 (fun y1 =>
      bif (decide (y1 < (0 : Int))) then
        k (.inl (y1, (-1 : Int), (i : Int)))
      else
        vl1 u0 u2 l y1 (i + 1) k)
theorem wex {u0} {u2} (h0 : u0.length < 9223372036854775807) {K : (q7T ⊕ q7T) → Option Res} : ∀ (l : List dTxn) (i : Nat) (s1 : Int) (n : Nat), u0.drop i = l → l.length < n → vae vkl n (u0, s1, u2, (i : Int)) K = vl1 u0 u2 l s1 i (Sum.elim (fun z => K (.inl (u0, z.1, z.2.1, z.2.2))) (fun z => K (.inr (u0, z.1, u2, z.2)))) := by
  intro l
  induction l with
  | nil =>
    intro i s1 n hd hn
    have hge := vbb hd
    cases n with
    | zero => exact absurd hn (Nat.not_lt_zero _)
    | succ n => simp only [vae, vkl, vl1, hge, decide_false, cond_false, Sum.elim_inr, Sum.elim_inl]
  | cons y l ih =>
    intro i s1 n hd hn
    obtain ⟨hlt, hz, hd2, hw, hnn⟩ := vay hd h0
    have hy := vat hd
    cases n with
    | zero => exact absurd hn (Nat.not_lt_zero _)
    | succ n =>
      have ih2 := fun (s1 : Int) => ih (i + 1) s1 n hd2 (Nat.lt_of_succ_lt_succ hn)
      simp only [vae, vkl, vl1, hlt, hz, decide_true, cond_true, and_self, if_true, hy, hw, hnn, Sum.elim_inl, Sum.elim_inr, ih2]
theorem wez {u0} {u2} (h0 : u0.length < 9223372036854775807) {K : (q7T ⊕ q7T) → Option Res} {s1 : Int} : vae vkl Fuel (u0, s1, u2, (0 : Int)) K = vl1 u0 u2 u0 s1 0 (Sum.elim (fun z => K (.inl (u0, z.1, z.2.1, z.2.2))) (fun z => K (.inr (u0, z.1, u2, z.2)))) :=
  wex h0 u0 0 s1 Fuel rfl (vaz h0)
def vfu (u0 : (List vac)) : List vac → (List vac) → Nat → ((Int × (List vac)) → Option Res) → Option Res
  | [], s2, i, k =>
    k ((i : Int), s2)
  | y :: l, s2, i, k =>
    vux y (fun y1 =>
      if 0 ≤ (i : Int) ∧ (i : Int) < (s2.length : Int) then
        vfu u0 l (s2.set (i : Int).toNat y1) (i + 1) k
      else none)
theorem wds {u0} (h0 : u0.length < 9223372036854775807) {K : q9T → Option Res} : ∀ (l : List vac) (i : Nat) (s2 : (List vac)) (n : Nat), u0.drop i = l → l.length < n → vae vj6 n (u0, (i : Int), s2) K = vfu u0 l s2 i (fun z => K (u0, z.1, z.2)) := by
  intro l
  induction l with
  | nil =>
    intro i s2 n hd hn
    have hge := vbb hd
    cases n with
    | zero => exact absurd hn (Nat.not_lt_zero _)
    | succ n => simp only [vae, vj6, vfu, hge, decide_false, cond_false, Sum.elim_inr, Sum.elim_inl]
  | cons y l ih =>
    intro i s2 n hd hn
    obtain ⟨hlt, hz, hd2, hw, hnn⟩ := vay hd h0
    have hy := vat hd
    cases n with
    | zero => exact absurd hn (Nat.not_lt_zero _)
    | succ n =>
      have ih2 := fun (s2 : (List vac)) => ih (i + 1) s2 n hd2 (Nat.lt_of_succ_lt_succ hn)
      simp only [vae, vj6, vfu, hlt, hz, decide_true, cond_true, and_self, if_true, hy, hw, hnn, Sum.elim_inl, Sum.elim_inr, ih2]
theorem wcj {u0} (h0 : u0.length < 9223372036854775807) {K : q9T → Option Res} {s2 : (List vac)} : vae vj6 Fuel (u0, (0 : Int), s2) K = vfu u0 u0 s2 0 (fun z => K (u0, z.1, z.2)) :=
  wds h0 u0 0 s2 Fuel rfl (vaz h0)
def v8d (a0 : (List vac)) (k : (List vac) → Option Res) : Option Res :=
  if 0 ≤ (a0.length : Int) ∧ (a0.length : Int) ≤ (a0.length : Int) ∧ (a0.length : Int) ≤ (VE.maxLen : Int) then
    vfu a0 a0 (List.replicate (a0.length : Int).toNat (Ty.zero tVersion)) 0 (fun z27 =>
      k z27.2)
  else none
theorem wjm {a0 : (List vac)} (h0 : a0.length < 9223372036854775807) {k : (List vac) → Option Res} : vub a0 k = v8d a0 k := by
  rw [wbi]
  simp only [v4j, v8d, (wcj h0), Sum.elim_inl, Sum.elim_inr]
def vgg (u0 : (List vag)) : List vag → (List vag) → Nat → ((Int × (List vag)) → Option Res) → Option Res
  | [], s2, i, k =>
    k ((i : Int), s2)
  | y :: l, s2, i, k =>
    vv2 y (fun y1 =>
      if 0 ≤ (i : Int) ∧ (i : Int) < (s2.length : Int) then
        vgg u0 l (s2.set (i : Int).toNat y1) (i + 1) k
      else none)
theorem wdx {u0} (h0 : u0.length < 9223372036854775807) {K : q1T → Option Res} : ∀ (l : List vag) (i : Nat) (s2 : (List vag)) (n : Nat), u0.drop i = l → l.length < n → vae vi6 n (u0, (i : Int), s2) K = vgg u0 l s2 i (fun z => K (u0, z.1, z.2)) := by
  intro l
  induction l with
  | nil =>
    intro i s2 n hd hn
    have hge := vbb hd
    cases n with
    | zero => exact absurd hn (Nat.not_lt_zero _)
    | succ n => simp only [vae, vi6, vgg, hge, decide_false, cond_false, Sum.elim_inr, Sum.elim_inl]
  | cons y l ih =>
    intro i s2 n hd hn
    obtain ⟨hlt, hz, hd2, hw, hnn⟩ := vay hd h0
    have hy := vat hd
    cases n with
    | zero => exact absurd hn (Nat.not_lt_zero _)
    | succ n =>
      have ih2 := fun (s2 : (List vag)) => ih (i + 1) s2 n hd2 (Nat.lt_of_succ_lt_succ hn)
      simp only [vae, vi6, vgg, hlt, hz, decide_true, cond_true, and_self, if_true, hy, hw, hnn, Sum.elim_inl, Sum.elim_inr, ih2]
theorem wdk {u0} (h0 : u0.length < 9223372036854775807) {K : q1T → Option Res} {s2 : (List vag)} : vae vi6 Fuel (u0, (0 : Int), s2) K = vgg u0 u0 s2 0 (fun z => K (u0, z.1, z.2)) :=
  wdx h0 u0 0 s2 Fuel rfl (vaz h0)
def wao (a0 : (List vag)) (k : (List vag) → Option Res) : Option Res :=
  if 0 ≤ (a0.length : Int) ∧ (a0.length : Int) ≤ (a0.length : Int) ∧ (a0.length : Int) ≤ (VE.maxLen : Int) then
    vgg a0 a0 (List.replicate (a0.length : Int).toNat (Ty.zero tRange)) 0 (fun z27 =>
      k z27.2)
  else none
theorem wj9 {a0 : (List vag)} (h0 : a0.length < 9223372036854775807) {k : (List vag) → Option Res} : vtx a0 k = wao a0 k := by
  rw [v8b]
  simp only [v3y, wao, (wdk h0), Sum.elim_inl, Sum.elim_inr]
def vfw (u0 : (List vaa)) : List vaa → (List vaa) → Nat → ((Int × (List vaa)) → Option Res) → Option Res
  | [], s2, i, k =>
    k ((i : Int), s2)
  | y :: l, s2, i, k =>
    vig y (fun y1 =>
      if 0 ≤ (i : Int) ∧ (i : Int) < (s2.length : Int) then
        vfw u0 l (s2.set (i : Int).toNat y1) (i + 1) k
      else none)
theorem we0 {u0} (h0 : u0.length < 9223372036854775807) {K : q13T → Option Res} : ∀ (l : List vaa) (i : Nat) (s2 : (List vaa)) (n : Nat), u0.drop i = l → l.length < n → vae vjp n (u0, (i : Int), s2) K = vfw u0 l s2 i (fun z => K (u0, z.1, z.2)) := by
  intro l
  induction l with
  | nil =>
    intro i s2 n hd hn
    have hge := vbb hd
    cases n with
    | zero => exact absurd hn (Nat.not_lt_zero _)
    | succ n => simp only [vae, vjp, vfw, hge, decide_false, cond_false, Sum.elim_inr, Sum.elim_inl]
  | cons y l ih =>
    intro i s2 n hd hn
    obtain ⟨hlt, hz, hd2, hw, hnn⟩ := vay hd h0
    have hy := vat hd
    cases n with
    | zero => exact absurd hn (Nat.not_lt_zero _)
    | succ n =>
      have ih2 := fun (s2 : (List vaa)) => ih (i + 1) s2 n hd2 (Nat.lt_of_succ_lt_succ hn)
      simp only [vae, vjp, vfw, hlt, hz, decide_true, cond_true, and_self, if_true, hy, hw, hnn, Sum.elim_inl, Sum.elim_inr, ih2]
theorem wfg {u0} (h0 : u0.length < 9223372036854775807) {K : q13T → Option Res} {s2 : (List vaa)} : vae vjp Fuel (u0, (0 : Int), s2) K = vfw u0 u0 s2 0 (fun z => K (u0, z.1, z.2)) :=
  we0 h0 u0 0 s2 Fuel rfl (vaz h0)
def wa3 (a0 : (List vaa)) (k : (List vaa) → Option Res) : Option Res :=
  if 0 ≤ (a0.length : Int) ∧ (a0.length : Int) ≤ (a0.length : Int) ∧ (a0.length : Int) ≤ (VE.maxLen : Int) then
    vfw a0 a0 (List.replicate (a0.length : Int).toNat (Ty.zero tWrite)) 0 (fun z27 =>
      k z27.2)
  else none
theorem wjl {a0 : (List vaa)} (h0 : a0.length < 9223372036854775807) {k : (List vaa) → Option Res} : vum a0 k = wa3 a0 k := by
  rw [wbf]
  simp only [v3j, wa3, (wfg h0), Sum.elim_inl, Sum.elim_inr]
def vfy (u0 : (List dTxn)) : List dTxn → (List dTxn) → Nat → ((Int × (List dTxn)) → Option Res) → Option Res
  | [], s2, i, k =>
    k ((i : Int), s2)
  | y :: l, s2, i, k =>
    vrt y (fun y1 =>
      if 0 ≤ (i : Int) ∧ (i : Int) < (s2.length : Int) then
        vfy u0 l (s2.set (i : Int).toNat (y1.1, (y1.2.1, (y1.2.2.1, (y1.2.2.2.1, (y1.2.2.2.2.2.2.1, (y1.2.2.2.2.2.2.2, (y1.2.2.2.2.1, y1.2.2.2.2.2.1)))))))) (i + 1) k
      else none)
theorem wej {u0} (h0 : u0.length < 9223372036854775807) {K : q4T → Option Res} : ∀ (l : List dTxn) (i : Nat) (s2 : (List dTxn)) (n : Nat), u0.drop i = l → l.length < n → vae vkj n (u0, (i : Int), s2) K = vfy u0 l s2 i (fun z => K (u0, z.1, z.2)) := by
  intro l
  induction l with
  | nil =>
    intro i s2 n hd hn
    have hge := vbb hd
    cases n with
    | zero => exact absurd hn (Nat.not_lt_zero _)
    | succ n => simp only [vae, vkj, vfy, hge, decide_false, cond_false, Sum.elim_inr, Sum.elim_inl]
  | cons y l ih =>
    intro i s2 n hd hn
    obtain ⟨hlt, hz, hd2, hw, hnn⟩ := vay hd h0
    have hy := vat hd
    cases n with
    | zero => exact absurd hn (Nat.not_lt_zero _)
    | succ n =>
      have ih2 := fun (s2 : (List dTxn)) => ih (i + 1) s2 n hd2 (Nat.lt_of_succ_lt_succ hn)
      simp only [vae, vkj, vfy, hlt, hz, decide_true, cond_true, and_self, if_true, hy, hw, hnn, Sum.elim_inl, Sum.elim_inr, ih2]
theorem wd8 {u0} (h0 : u0.length < 9223372036854775807) {K : q4T → Option Res} {s2 : (List dTxn)} : vae vkj Fuel (u0, (0 : Int), s2) K = vfy u0 u0 s2 0 (fun z => K (u0, z.1, z.2)) :=
  wej h0 u0 0 s2 Fuel rfl (vaz h0)
def v94 (a0 : (List dTxn)) (k : (List dTxn) → Option Res) : Option Res :=
  if 0 ≤ (a0.length : Int) ∧ (a0.length : Int) ≤ (a0.length : Int) ∧ (a0.length : Int) ≤ (VE.maxLen : Int) then
    vfy a0 a0 (List.replicate (a0.length : Int).toNat (Ty.zero tTxn)) 0 (fun z27 =>
      k z27.2)
  else none
theorem wk0 {a0 : (List dTxn)} (h0 : a0.length < 9223372036854775807) {k : (List dTxn) → Option Res} : voy a0 k = v94 a0 k := by
  rw [waj]
  simp only [v2x, v94, (wd8 h0), Sum.elim_inl, Sum.elim_inr]
def vhs (u0 : (List dTxn)) : List dTxn → (List dTxn) → Nat → ((Int × (List dTxn)) → Option Res) → Option Res
  | [], s2, i, k =>
    k ((i : Int), s2)
  | y :: l, s2, i, k =>
    vlb y (fun y1 =>
      if s2.length + [(y1.1, (y1.2.1, (y1.2.2.1, (y1.2.2.2.1, (y1.2.2.2.2.2.2.1, (y1.2.2.2.2.2.2.2, (y1.2.2.2.2.1, y1.2.2.2.2.2.1)))))))].length ≤ VE.maxLen then
        vhs u0 l (s2 ++ [(y1.1, (y1.2.1, (y1.2.2.1, (y1.2.2.2.1, (y1.2.2.2.2.2.2.1, (y1.2.2.2.2.2.2.2, (y1.2.2.2.2.1, y1.2.2.2.2.2.1)))))))]) (i + 1) k
      else none)
theorem wfl {u0} (h0 : u0.length < 9223372036854775807) {K : q4T → Option Res} : ∀ (l : List dTxn) (i : Nat) (s2 : (List dTxn)) (n : Nat), u0.drop i = l → l.length < n → vae vi5 n (u0, (i : Int), s2) K = vhs u0 l s2 i (fun z => K (u0, z.1, z.2)) := by
  intro l
  induction l with
  | nil =>
    intro i s2 n hd hn
    have hge := vbb hd
    cases n with
    | zero => exact absurd hn (Nat.not_lt_zero _)
    | succ n => simp only [vae, vi5, vhs, hge, decide_false, cond_false, Sum.elim_inr, Sum.elim_inl]
  | cons y l ih =>
    intro i s2 n hd hn
    obtain ⟨hlt, hz, hd2, hw, hnn⟩ := vay hd h0
    have hy := vat hd
    cases n with
    | zero => exact absurd hn (Nat.not_lt_zero _)
    | succ n =>
      have ih2 := fun (s2 : (List dTxn)) => ih (i + 1) s2 n hd2 (Nat.lt_of_succ_lt_succ hn)
      simp only [vae, vi5, vhs, hlt, hz, decide_true, cond_true, and_self, if_true, hy, hw, hnn, Sum.elim_inl, Sum.elim_inr, ih2]
theorem we4 {u0} (h0 : u0.length < 9223372036854775807) {K : q4T → Option Res} {s2 : (List dTxn)} : vae vi5 Fuel (u0, (0 : Int), s2) K = vhs u0 u0 s2 0 (fun z => K (u0, z.1, z.2)) :=
  wfl h0 u0 0 s2 Fuel rfl (vaz h0)
def wab (a0 : (List dTxn)) (k : (List dTxn) → Option Res) : Option Res :=
  vhs a0 a0 ([] : List dTxn) 0 (fun z27 =>
    k z27.2)
theorem wkk {a0 : (List dTxn)} (h0 : a0.length < 9223372036854775807) {k : (List dTxn) → Option Res} : voq a0 k = wab a0 k := by
  rw [v79]
  simp only [v5g, wab, (we4 h0), Sum.elim_inl, Sum.elim_inr]
def vgh (u0 : Int) (u1 : Int) (u3 : (List vac)) (u4 : (List dTxn)) (u5 : (List dTxn)) (u6 : Int) (u7 : Int) (u8 : (List dTxn)) : List dTxn → Nat → (((Int × Int) ⊕ Int) → Option Res) → Option Res
  | [], i, k =>
    k (.inr (i : Int))
  | y :: l, i, k =>
    bif (y.1 == u0) then
      k (.inl ((i : Int), (i : Int)))
    else
      vgh u0 u1 u3 u4 u5 u6 u7 u8 l (i + 1) k
theorem wfd {u0} {u1} {u3} {u4} {u5} {u6} {u7} {u8} (h0 : u8.length < 9223372036854775807) {K : (q34T ⊕ q34T) → Option Res} : ∀ (l : List dTxn) (i : Nat)  (n : Nat), u8.drop i = l → l.length < n → vae vis n (u0, u1, (i : Int), u3, u4, u5, u6, u7, u8) K = vgh u0 u1 u3 u4 u5 u6 u7 u8 l  i (Sum.elim (fun z => K (.inl (u0, z.1, z.2, u3, u4, u5, u6, u7, u8))) (fun z => K (.inr (u0, u1, z, u3, u4, u5, u6, u7, u8)))) := by
  intro l
  induction l with
  | nil =>
    intro i  n hd hn
    have hge := vbb hd
    cases n with
    | zero => exact absurd hn (Nat.not_lt_zero _)
    | succ n => simp only [vae, vis, vgh, hge, decide_false, cond_false, Sum.elim_inr, Sum.elim_inl]
  | cons y l ih =>
    intro i  n hd hn
    obtain ⟨hlt, hz, hd2, hw, hnn⟩ := vay hd h0
    have hy := vat hd
    cases n with
    | zero => exact absurd hn (Nat.not_lt_zero _)
    | succ n =>
      have ih2 := ih (i + 1)  n hd2 (Nat.lt_of_succ_lt_succ hn)
      simp only [vae, vis, vgh, hlt, hz, decide_true, cond_true, and_self, if_true, hy, hw, hnn, Sum.elim_inl, Sum.elim_inr, ih2]
theorem wee {u0} {u1} {u3} {u4} {u5} {u6} {u7} {u8} (h0 : u8.length < 9223372036854775807) {K : (q34T ⊕ q34T) → Option Res}  : vae vis Fuel (u0, u1, (0 : Int), u3, u4, u5, u6, u7, u8) K = vgh u0 u1 u3 u4 u5 u6 u7 u8 u8  0 (Sum.elim (fun z => K (.inl (u0, z.1, z.2, u3, u4, u5, u6, u7, u8))) (fun z => K (.inr (u0, u1, z, u3, u4, u5, u6, u7, u8)))) :=
  wfd h0 u8 0  Fuel rfl (vaz h0)
def v90 (a0 : va8) (a1 : Int) (k : Int → Option Res) : Option Res :=
  vgh a1 (0 : Int) a0.1.1 a0.1.2.1 a0.1.2.2.1 a0.1.2.2.2.1 a0.1.2.2.2.2 a0.2 a0.2  0 (Sum.elim (fun z27 =>
    k z27.1) (fun _ =>
    k (-1 : Int)))
theorem wld {a0 : va8} {a1 : Int} (h0 : a0.2.length < 9223372036854775807) {k : Int → Option Res} : vul a0 a1 k = v90 a0 a1 k := by
  rw [v93]
  simp only [v5i, v90, (wee h0), Sum.elim_inl, Sum.elim_inr]
def vj9 (u0 : ByteArray) (u1 : Bool) : List Int → Nat → (((Bool × Int) ⊕ Int) → Option Res) → Option Res
  | [], i, k =>
    k (.inr (i : Int))
  | y :: l, i, k =>
    bif (decide (y < (97 : Int))) then
      k (.inl (false, (i : Int)))
    else
      bif (decide (y > (122 : Int))) then
        k (.inl (false, (i : Int)))
      else
        vj9 u0 u1 l (i + 1) k
theorem wcm {u0} {u1} (h0 : u0.size < 9223372036854775807) {K : ((ByteArray × Bool × Int) ⊕ (ByteArray × Bool × Int)) → Option Res} : ∀ (l : List Int) (i : Nat)  (n : Nat), (vb9 u0).drop i = l → l.length < n → vae vje n (u0, u1, (i : Int)) K = vj9 u0 u1 l  i (Sum.elim (fun z => K (.inl (u0, z.1, z.2))) (fun z => K (.inr (u0, u1, z)))) := by
  intro l
  induction l with
  | nil =>
    intro i  n hd hn
    have hge := v8a hd
    cases n with
    | zero => exact absurd hn (Nat.not_lt_zero _)
    | succ n => simp only [vae, vje, vj9, hge, decide_false, cond_false, Sum.elim_inr, Sum.elim_inl]
  | cons y l ih =>
    intro i  n hd hn
    obtain ⟨hlt, hz, hd2, hw, hnn⟩ := v4x hd h0
    have hy := v74 hd
    cases n with
    | zero => exact absurd hn (Nat.not_lt_zero _)
    | succ n =>
      have ih2 := ih (i + 1)  n hd2 (Nat.lt_of_succ_lt_succ hn)
      simp only [vae, vje, vj9, hlt, hz, decide_true, cond_true, and_self, if_true, hy, hw, hnn, Sum.elim_inl, Sum.elim_inr, ih2]
theorem wen {u0} {u1} (h0 : u0.size < 9223372036854775807) {K : ((ByteArray × Bool × Int) ⊕ (ByteArray × Bool × Int)) → Option Res}  : vae vje Fuel (u0, u1, (0 : Int)) K = vj9 u0 u1 (vb9 u0)  0 (Sum.elim (fun z => K (.inl (u0, z.1, z.2))) (fun z => K (.inr (u0, u1, z)))) :=
  wcm h0 (vb9 u0) 0  Fuel rfl (v2v h0)
def wap (a0 : ByteArray) (k : Bool → Option Res) : Option Res :=
  vj9 a0 false (vb9 a0)  0 (Sum.elim (fun z27 =>
    k z27.1) (fun _ =>
    vfb (a0.size : Int) (1 : Int) (3 : Int) (fun y29 =>
      k y29)))
theorem wky {a0 : ByteArray} (h0 : a0.size < 9223372036854775807) {k : Bool → Option Res} : vlf a0 k = wap a0 k := by
  rw [wav]
  simp only [v5a, wap, (wen h0), Sum.elim_inl, Sum.elim_inr]
def vhu (u0 : (List vaa)) (u1 : Bool) : List vaa → Nat → (((Bool × Int) ⊕ Int) → Option Res) → Option Res
  | [], i, k =>
    k (.inr (i : Int))
  | y :: l, i, k =>
    vnl y (fun y1 =>
      bif (!y1) then
        k (.inl (false, (i : Int)))
      else
        bif (decide ((i : Int) > (0 : Int))) then
          if 0 ≤ (IntKind.wrap .i64 ((i : Int) - (1 : Int))) ∧ (IntKind.wrap .i64 ((i : Int) - (1 : Int))) < (u0.length : Int) then
            bif (!(vaf ((rd (Ty.zero tWrite) u0 (IntKind.wrap .i64 ((i : Int) - (1 : Int)))).1) (y.1))) then
              k (.inl (false, (i : Int)))
            else
              vhu u0 u1 l (i + 1) k
          else none
        else
          vhu u0 u1 l (i + 1) k)
theorem wei {u0} {u1} (h0 : u0.length < 9223372036854775807) {K : (((List vaa) × Bool × Int) ⊕ ((List vaa) × Bool × Int)) → Option Res} : ∀ (l : List vaa) (i : Nat)  (n : Nat), u0.drop i = l → l.length < n → vae vjf n (u0, u1, (i : Int)) K = vhu u0 u1 l  i (Sum.elim (fun z => K (.inl (u0, z.1, z.2))) (fun z => K (.inr (u0, u1, z)))) := by
  intro l
  induction l with
  | nil =>
    intro i  n hd hn
    have hge := vbb hd
    cases n with
    | zero => exact absurd hn (Nat.not_lt_zero _)
    | succ n => simp only [vae, vjf, vhu, hge, decide_false, cond_false, Sum.elim_inr, Sum.elim_inl]
  | cons y l ih =>
    intro i  n hd hn
    obtain ⟨hlt, hz, hd2, hw, hnn⟩ := vay hd h0
    have hy := vat hd
    cases n with
    | zero => exact absurd hn (Nat.not_lt_zero _)
    | succ n =>
      have ih2 := ih (i + 1)  n hd2 (Nat.lt_of_succ_lt_succ hn)
      simp only [vae, vjf, vhu, hlt, hz, decide_true, cond_true, and_self, if_true, hy, hw, hnn, Sum.elim_inl, Sum.elim_inr, ih2]
theorem wfc {u0} {u1} (h0 : u0.length < 9223372036854775807) {K : (((List vaa) × Bool × Int) ⊕ ((List vaa) × Bool × Int)) → Option Res}  : vae vjf Fuel (u0, u1, (0 : Int)) K = vhu u0 u1 u0  0 (Sum.elim (fun z => K (.inl (u0, z.1, z.2))) (fun z => K (.inr (u0, u1, z)))) :=
  wei h0 u0 0  Fuel rfl (vaz h0)
def wa0 (a0 : (List vaa)) (k : Bool → Option Res) : Option Res :=
  vhu a0 false a0  0 (Sum.elim (fun z27 =>
    k z27.1) (fun _ =>
    k (decide ((a0.length : Int) ≤ (8 : Int)))))
theorem wko {a0 : (List vaa)} (h0 : a0.length < 9223372036854775807) {k : Bool → Option Res} : vno a0 k = wa0 a0 k := by
  rw [v9h]
  simp only [v37, wa0, (wfc h0), Sum.elim_inl, Sum.elim_inr]
def vb4 (u0 : Bool) (u1 : Int) (u2 : Int) (u3 : Int) (u4 : Int) (u5 : (List vag)) (u6 : (List vaa)) (u7 : Bool) (u8 : ByteArray) (k : Bool → Option Res) : Option Res :=
    bif (u2 != (1 : Int)) then
      k true
    else
      k (!u7)
theorem vsz {u0} {u1} {u2} {u3} {u4} {u5} {u6} {u7} {u8}  {K : q22T → Option Res} : vbo (u0, u1, u2, u3, u4, u5, u6, u7, u8) K = vb4 u0 u1 u2 u3 u4 u5 u6 u7 u8 (fun z => K (z, u1, u2, u3, u4, u5, u6, u7, u8)) := by
  simp only [vbo, vb4, Sum.elim_inl, Sum.elim_inr]
def vb1 (u0 : Bool) (u1 : Int) (u2 : Int) (u3 : Int) (u4 : Int) (u5 : (List vag)) (u6 : (List vaa)) (u7 : Bool) (u8 : ByteArray) (k : Bool → Option Res) : Option Res :=
    bif (u2 == (2 : Int)) then
      vlf u8 (fun y1 =>
        bif (!y1) then
          k false
        else
          bif (u2 != (2 : Int)) then
            bif (!(vas u8 (⟨#[]⟩ : ByteArray))) then
              k false
            else
              vb4 u0 u1 u2 u3 u4 u5 u6 u7 u8 (fun z2 =>
                k z2)
          else
            vb4 u0 u1 u2 u3 u4 u5 u6 u7 u8 (fun z3 =>
              k z3))
    else
      bif (u2 != (2 : Int)) then
        bif (!(vas u8 (⟨#[]⟩ : ByteArray))) then
          k false
        else
          vb4 u0 u1 u2 u3 u4 u5 u6 u7 u8 (fun z4 =>
            k z4)
      else
        vb4 u0 u1 u2 u3 u4 u5 u6 u7 u8 (fun z5 =>
          k z5)
theorem vsn {u0} {u1} {u2} {u3} {u4} {u5} {u6} {u7} {u8}  {K : q22T → Option Res} : vbn (u0, u1, u2, u3, u4, u5, u6, u7, u8) K = vb1 u0 u1 u2 u3 u4 u5 u6 u7 u8 (fun z => K (z, u1, u2, u3, u4, u5, u6, u7, u8)) := by
  simp only [vbn, vb1, vsz, Sum.elim_inl, Sum.elim_inr]
def vj5 (u0 : Bool) (u2 : Int) (u3 : Int) (u4 : Int) (u5 : Int) (u6 : (List vag)) (u7 : (List vaa)) (u8 : Bool) (u9 : ByteArray) : List vag → Nat → (((Bool × Int) ⊕ Int) → Option Res) → Option Res
  | [], i, k =>
    k (.inr (i : Int))
  | y :: l, i, k =>
    vu7 y (fun y1 =>
      bif (!y1) then
        k (.inl (false, (i : Int)))
      else
        vj5 u0 u2 u3 u4 u5 u6 u7 u8 u9 l (i + 1) k)
theorem wcy {u0} {u2} {u3} {u4} {u5} {u6} {u7} {u8} {u9} (h0 : u6.length < 9223372036854775807) {K : (q24T ⊕ q24T) → Option Res} : ∀ (l : List vag) (i : Nat)  (n : Nat), u6.drop i = l → l.length < n → vae vjy n (u0, (i : Int), u2, u3, u4, u5, u6, u7, u8, u9) K = vj5 u0 u2 u3 u4 u5 u6 u7 u8 u9 l  i (Sum.elim (fun z => K (.inl (z.1, z.2, u2, u3, u4, u5, u6, u7, u8, u9))) (fun z => K (.inr (u0, z, u2, u3, u4, u5, u6, u7, u8, u9)))) := by
  intro l
  induction l with
  | nil =>
    intro i  n hd hn
    have hge := vbb hd
    cases n with
    | zero => exact absurd hn (Nat.not_lt_zero _)
    | succ n => simp only [vae, vjy, vj5, hge, decide_false, cond_false, Sum.elim_inr, Sum.elim_inl]
  | cons y l ih =>
    intro i  n hd hn
    obtain ⟨hlt, hz, hd2, hw, hnn⟩ := vay hd h0
    have hy := vat hd
    cases n with
    | zero => exact absurd hn (Nat.not_lt_zero _)
    | succ n =>
      have ih2 := ih (i + 1)  n hd2 (Nat.lt_of_succ_lt_succ hn)
      simp only [vae, vjy, vj5, hlt, hz, decide_true, cond_true, and_self, if_true, hy, hw, hnn, Sum.elim_inl, Sum.elim_inr, ih2]
theorem wcl {u0} {u2} {u3} {u4} {u5} {u6} {u7} {u8} {u9} (h0 : u6.length < 9223372036854775807) {K : (q24T ⊕ q24T) → Option Res}  : vae vjy Fuel (u0, (0 : Int), u2, u3, u4, u5, u6, u7, u8, u9) K = vj5 u0 u2 u3 u4 u5 u6 u7 u8 u9 u6  0 (Sum.elim (fun z => K (.inl (z.1, z.2, u2, u3, u4, u5, u6, u7, u8, u9))) (fun z => K (.inr (u0, z, u2, u3, u4, u5, u6, u7, u8, u9)))) :=
  wcy h0 u6 0  Fuel rfl (vaz h0)
def vd4 (u0 : Bool) (u1 : Int) (u2 : Int) (u3 : Int) (u4 : Int) (u5 : (List vag)) (u6 : (List vaa)) (u7 : Bool) (u8 : ByteArray) (k : Bool → Option Res) : Option Res :=
    vj5 u0 u1 u2 u3 u4 u5 u6 u7 u8 u5  0 (Sum.elim (fun z1 =>
      k z1.1) (fun _ =>
      bif (u2 == (3 : Int)) then
        vfb u4 (IntKind.wrap .i64 (u3 + (1 : Int))) (9999 : Int) (fun y3 =>
          bif (!y3) then
            k false
          else
            bif (u2 != (3 : Int)) then
              bif (u4 != (0 : Int)) then
                k false
              else
                vb1 u0 u1 u2 u3 u4 u5 u6 u7 u8 (fun z4 =>
                  k z4)
            else
              vb1 u0 u1 u2 u3 u4 u5 u6 u7 u8 (fun z5 =>
                k z5))
      else
        bif (u2 != (3 : Int)) then
          bif (u4 != (0 : Int)) then
            k false
          else
            vb1 u0 u1 u2 u3 u4 u5 u6 u7 u8 (fun z6 =>
              k z6)
        else
          vb1 u0 u1 u2 u3 u4 u5 u6 u7 u8 (fun z7 =>
            k z7)))
theorem vs7 {u0} {u1} {u2} {u3} {u4} {u5} {u6} {u7} {u8} (h0 : u5.length < 9223372036854775807) {K : q22T → Option Res} : vcs (u0, u1, u2, u3, u4, u5, u6, u7, u8) K = vd4 u0 u1 u2 u3 u4 u5 u6 u7 u8 (fun z => K (z, u1, u2, u3, u4, u5, u6, u7, u8)) := by
  simp only [vcs, vd4, vsn, (wcl h0), Sum.elim_inl, Sum.elim_inr]
def wbw (a0 : dTxn) (k : Bool → Option Res) : Option Res :=
  vfb a0.1 (1 : Int) (9999 : Int) (fun y27 =>
    bif (!y27) then
      k false
    else
      vfb a0.2.1 (1 : Int) (3 : Int) (fun y28 =>
        bif (!y28) then
          k false
        else
          vfb a0.2.2.1 (0 : Int) (9999 : Int) (fun y29 =>
            bif (!y29) then
              k false
            else
              bif (decide ((a0.2.2.2.2.1.length : Int) > (8 : Int))) then
                k false
              else
                vno a0.2.2.2.2.2.1 (fun y30 =>
                  bif (!y30) then
                    k false
                  else
                    vd4 false a0.1 a0.2.1 a0.2.2.1 a0.2.2.2.1 a0.2.2.2.2.1 a0.2.2.2.2.2.1 a0.2.2.2.2.2.2.1 a0.2.2.2.2.2.2.2 (fun z31 =>
                      k z31)))))
theorem wjq {a0 : dTxn} (h0 : a0.2.2.2.2.1.length < 9223372036854775807) {k : Bool → Option Res} : vsg a0 k = wbw a0 k := by
  rw [v76]
  simp only [v5f, wbw, (vs7 h0), Sum.elim_inl, Sum.elim_inr]
def vgu (u0 : (List vaa)) (u2 : ByteArray) (u3 : ByteArray) (u4 : Bool) : List vaa → (List vaa) → Nat → ((Int × (List vaa)) → Option Res) → Option Res
  | [], s5, i, k =>
    k ((i : Int), s5)
  | y :: l, s5, i, k =>
    bif (vaf (y.1) u2) then
      if s5.length + [y].length ≤ VE.maxLen then
        vgu u0 u2 u3 u4 l (s5 ++ [y]) (i + 1) k
      else none
    else
      vgu u0 u2 u3 u4 l s5 (i + 1) k
theorem wd0 {u0} {u2} {u3} {u4} (h0 : u0.length < 9223372036854775807) {K : q14T → Option Res} : ∀ (l : List vaa) (i : Nat) (s5 : (List vaa)) (n : Nat), u0.drop i = l → l.length < n → vae vio n (u0, (i : Int), u2, u3, u4, s5) K = vgu u0 u2 u3 u4 l s5 i (fun z => K (u0, z.1, u2, u3, u4, z.2)) := by
  intro l
  induction l with
  | nil =>
    intro i s5 n hd hn
    have hge := vbb hd
    cases n with
    | zero => exact absurd hn (Nat.not_lt_zero _)
    | succ n => simp only [vae, vio, vgu, hge, decide_false, cond_false, Sum.elim_inr, Sum.elim_inl]
  | cons y l ih =>
    intro i s5 n hd hn
    obtain ⟨hlt, hz, hd2, hw, hnn⟩ := vay hd h0
    have hy := vat hd
    cases n with
    | zero => exact absurd hn (Nat.not_lt_zero _)
    | succ n =>
      have ih2 := fun (s5 : (List vaa)) => ih (i + 1) s5 n hd2 (Nat.lt_of_succ_lt_succ hn)
      simp only [vae, vio, vgu, hlt, hz, decide_true, cond_true, and_self, if_true, hy, hw, hnn, Sum.elim_inl, Sum.elim_inr, ih2]
theorem we6 {u0} {u2} {u3} {u4} (h0 : u0.length < 9223372036854775807) {K : q14T → Option Res} {s5 : (List vaa)} : vae vio Fuel (u0, (0 : Int), u2, u3, u4, s5) K = vgu u0 u2 u3 u4 u0 s5 0 (fun z => K (u0, z.1, u2, u3, u4, z.2)) :=
  wd0 h0 u0 0 s5 Fuel rfl (vaz h0)
def vf9 (u0 : (List vaa)) (u2 : ByteArray) (u3 : ByteArray) (u4 : Bool) : List vaa → (List vaa) → Nat → ((Int × (List vaa)) → Option Res) → Option Res
  | [], s5, i, k =>
    k ((i : Int), s5)
  | y :: l, s5, i, k =>
    bif (!((vaf (y.1) u2) || (vas (y.1) u2))) then
      if s5.length + [y].length ≤ VE.maxLen then
        vf9 u0 u2 u3 u4 l (s5 ++ [y]) (i + 1) k
      else none
    else
      vf9 u0 u2 u3 u4 l s5 (i + 1) k
theorem wco {u0} {u2} {u3} {u4} (h0 : u0.length < 9223372036854775807) {K : q14T → Option Res} : ∀ (l : List vaa) (i : Nat) (s5 : (List vaa)) (n : Nat), u0.drop i = l → l.length < n → vae vjj n (u0, (i : Int), u2, u3, u4, s5) K = vf9 u0 u2 u3 u4 l s5 i (fun z => K (u0, z.1, u2, u3, u4, z.2)) := by
  intro l
  induction l with
  | nil =>
    intro i s5 n hd hn
    have hge := vbb hd
    cases n with
    | zero => exact absurd hn (Nat.not_lt_zero _)
    | succ n => simp only [vae, vjj, vf9, hge, decide_false, cond_false, Sum.elim_inr, Sum.elim_inl]
  | cons y l ih =>
    intro i s5 n hd hn
    obtain ⟨hlt, hz, hd2, hw, hnn⟩ := vay hd h0
    have hy := vat hd
    cases n with
    | zero => exact absurd hn (Nat.not_lt_zero _)
    | succ n =>
      have ih2 := fun (s5 : (List vaa)) => ih (i + 1) s5 n hd2 (Nat.lt_of_succ_lt_succ hn)
      simp only [vae, vjj, vf9, hlt, hz, decide_true, cond_true, and_self, if_true, hy, hw, hnn, Sum.elim_inl, Sum.elim_inr, ih2]
theorem wdo {u0} {u2} {u3} {u4} (h0 : u0.length < 9223372036854775807) {K : q14T → Option Res} {s5 : (List vaa)} : vae vjj Fuel (u0, (0 : Int), u2, u3, u4, s5) K = vf9 u0 u2 u3 u4 u0 s5 0 (fun z => K (u0, z.1, u2, u3, u4, z.2)) :=
  wco h0 u0 0 s5 Fuel rfl (vaz h0)
def wa7 (a0 : (List vaa)) (a1 : vaa) (k : (List vaa) → Option Res) : Option Res :=
  vgu a0 a1.1 a1.2.1 a1.2.2 a0 ([] : List vaa) 0 (fun z27 =>
    if z27.2.length + [a1].length ≤ VE.maxLen then
      vf9 a0 a1.1 a1.2.1 a1.2.2 a0 (z27.2 ++ [a1]) 0 (fun z28 =>
        k z28.2)
    else none)
theorem wjk {a0 : (List vaa)} {a1 : vaa} (h0 : a0.length < 9223372036854775807) {k : (List vaa) → Option Res} : vqb a0 a1 k = wa7 a0 a1 k := by
  rw [v8w]
  simp only [v2r, wa7, (wdo h0), (we6 h0), Sum.elim_inl, Sum.elim_inr]
def vd9 (u0 : Bool) (u1 : Int) (u2 : Int) (u3 : Int) (u4 : Int) (u5 : (List vag)) (u6 : (List vaa)) (u7 : Bool) (u8 : ByteArray) (u9 : ByteArray) (u10 : ByteArray) (u11 : Bool) (u12 : Int) (u13 : Int) (u14 : Int) (u15 : Int) (u16 : Bool) (u17 : ByteArray) (u18 : Int) (u19 : Int) (u20 : Int) (u21 : Int) (u22 : Bool) (u23 : ByteArray) (u24 : (List vag)) (u25 : (List vaa)) (u26 : (List vag)) (u27 : (List vaa)) (k : ((Bool × (List vaa)) ⊕ q23T) → Option Res) : Option Res :=
    vqb u6 (u9, (u10, u11)) (fun y1 =>
      vno y1 (fun y2 =>
        bif (!y2) then
          vlb (u1, (u2, (u3, (u4, (u5, (u6, (u7, u8))))))) (fun y3 =>
            k (.inr (false, y3.1, y3.2.1, y3.2.2.1, y3.2.2.2.1, y3.2.2.2.2.1, y3.2.2.2.2.2.1, y3.2.2.2.2.2.2.1, y3.2.2.2.2.2.2.2, y1)))
        else
          k (.inl (true, y1))))
theorem vte {u0} {u1} {u2} {u3} {u4} {u5} {u6} {u7} {u8} {u9} {u10} {u11} {u12} {u13} {u14} {u15} {u16} {u17} {u18} {u19} {u20} {u21} {u22} {u23} {u24} {u25} {u26} {u27}  {K : (q21T ⊕ q20T) → Option Res} : vcq (u0, u1, u2, u3, u4, u5, u6, u7, u8, u9, u10, u11, u12, u13, u14, u15, u16, u17, u18, u19, u20, u21, u22, u23, u24, u25, u26, u27) K = vd9 u0 u1 u2 u3 u4 u5 u6 u7 u8 u9 u10 u11 u12 u13 u14 u15 u16 u17 u18 u19 u20 u21 u22 u23 u24 u25 u26 u27 (Sum.elim (fun z => K (.inl (z.1, u1, u2, u3, u4, u5, u6, u7, u8, u9, u10, u11, u18, u19, u20, u21, u22, u23, u18, u19, u20, u21, u22, u23, u26, z.2))) (fun z => K (.inr (z.1, u1, u2, u3, u4, u5, u6, u7, u8, u9, u10, u11, z.2.1, z.2.2.1, z.2.2.2.1, z.2.2.2.2.1, z.2.2.2.2.2.1, z.2.2.2.2.2.2.1, u18, u19, u20, u21, u22, u23, z.2.2.2.2.2.2.2.1, z.2.2.2.2.2.2.2.2.1, u26, z.2.2.2.2.2.2.2.2.2)))) := by
  simp only [vcq, vd9, Sum.elim_inl, Sum.elim_inr]
def wat (a0 : dTxn) (a1 : vaa) (k : q36T → Option Res) : Option Res :=
  vlb a0 (fun y27 =>
    vsg a0 (fun y28 =>
      bif (!y28) then
        k (y27.1, y27.2.1, y27.2.2.1, y27.2.2.2.1, y27.2.2.2.2.1, y27.2.2.2.2.2.1, false, y27.2.2.2.2.2.2.1, y27.2.2.2.2.2.2.2)
      else
        bif (a0.2.1 != (1 : Int)) then
          k (y27.1, y27.2.1, y27.2.2.1, y27.2.2.2.1, y27.2.2.2.2.1, y27.2.2.2.2.2.1, false, y27.2.2.2.2.2.2.1, y27.2.2.2.2.2.2.2)
        else
          vnl a1 (fun y29 =>
            bif (!y29) then
              k (y27.1, y27.2.1, y27.2.2.1, y27.2.2.2.1, y27.2.2.2.2.1, y27.2.2.2.2.2.1, false, y27.2.2.2.2.2.2.1, y27.2.2.2.2.2.2.2)
            else
              vd9 false a0.1 a0.2.1 a0.2.2.1 a0.2.2.2.1 a0.2.2.2.2.1 a0.2.2.2.2.2.1 a0.2.2.2.2.2.2.1 a0.2.2.2.2.2.2.2 a1.1 a1.2.1 a1.2.2 (0 : Int) (0 : Int) (0 : Int) (0 : Int) false (⟨#[]⟩ : ByteArray) y27.1 y27.2.1 y27.2.2.1 y27.2.2.2.1 y27.2.2.2.2.1 y27.2.2.2.2.2.1 ([] : List vag) ([] : List vaa) y27.2.2.2.2.2.2.1 y27.2.2.2.2.2.2.2 (Sum.elim (fun z30 =>
                k (y27.1, y27.2.1, y27.2.2.1, y27.2.2.2.1, y27.2.2.2.2.1, y27.2.2.2.2.2.1, z30.1, y27.2.2.2.2.2.2.1, z30.2)) (fun z31 =>
                k (z31.2.1, z31.2.2.1, z31.2.2.2.1, z31.2.2.2.2.1, z31.2.2.2.2.2.1, z31.2.2.2.2.2.2.1, z31.1, z31.2.2.2.2.2.2.2.1, z31.2.2.2.2.2.2.2.2.1))))))
theorem wka {a0 : dTxn} {a1 : vaa}  {k : q36T → Option Res} : vt4 a0 a1 k = wat a0 a1 k := by
  rw [v9a]
  simp only [v4d, wat, vte, Sum.elim_inl, Sum.elim_inr]
def vh8 (u0 : (List dTxn)) : List dTxn → (List dTxn) → Nat → ((Int × (List dTxn)) → Option Res) → Option Res
  | [], s3, i, k =>
    k ((i : Int), s3)
  | y :: l, s3, i, k =>
    vlg y (fun y1 =>
      if s3.length + [(y1.1, (y1.2.1, (y1.2.2.1, (y1.2.2.2.1, (y1.2.2.2.2.2.2.1, (y1.2.2.2.2.2.2.2, (y1.2.2.2.2.1, y1.2.2.2.2.2.1)))))))].length ≤ VE.maxLen then
        vh8 u0 l (s3 ++ [(y1.1, (y1.2.1, (y1.2.2.1, (y1.2.2.2.1, (y1.2.2.2.2.2.2.1, (y1.2.2.2.2.2.2.2, (y1.2.2.2.2.1, y1.2.2.2.2.2.1)))))))]) (i + 1) k
      else none)
theorem wb4 {u0} (h0 : u0.length < 9223372036854775807) {K : q5T → Option Res} : ∀ (l : List dTxn) (i : Nat) (s3 : (List dTxn)) (n : Nat), u0.drop i = l → l.length < n → vae viy n (u0, (u0.length : Int), (i : Int), s3) K = vh8 u0 l s3 i (fun z => K (u0, (u0.length : Int), z.1, z.2)) := by
  intro l
  induction l with
  | nil =>
    intro i s3 n hd hn
    have hge := vbb hd
    cases n with
    | zero => exact absurd hn (Nat.not_lt_zero _)
    | succ n => simp only [vae, viy, vh8, hge, decide_false, cond_false, Sum.elim_inr, Sum.elim_inl]
  | cons y l ih =>
    intro i s3 n hd hn
    obtain ⟨hlt, hz, hd2, hw, hnn⟩ := vay hd h0
    have hy := vat hd
    cases n with
    | zero => exact absurd hn (Nat.not_lt_zero _)
    | succ n =>
      have ih2 := fun (s3 : (List dTxn)) => ih (i + 1) s3 n hd2 (Nat.lt_of_succ_lt_succ hn)
      simp only [vae, viy, vh8, hlt, hz, decide_true, cond_true, and_self, if_true, hy, hw, hnn, Sum.elim_inl, Sum.elim_inr, ih2]
theorem wdu {u0} (h0 : u0.length < 9223372036854775807) {K : q5T → Option Res} {s3 : (List dTxn)} : vae viy Fuel (u0, (u0.length : Int), (0 : Int), s3) K = vh8 u0 u0 s3 0 (fun z => K (u0, (u0.length : Int), z.1, z.2)) :=
  wb4 h0 u0 0 s3 Fuel rfl (vaz h0)
def wbk (a0 : (List dTxn)) (k : (List dTxn) → Option Res) : Option Res :=
  vh8 a0 a0 ([] : List dTxn) 0 (fun z27 =>
    k z27.2)
theorem wlp {a0 : (List dTxn)} (h0 : a0.length < 9223372036854775807) {k : (List dTxn) → Option Res} : vou a0 k = wbk a0 k := by
  rw [v96]
  simp only [v22, wbk, (wdu h0), Sum.elim_inl, Sum.elim_inr]
def vh6 (u0 : (List dTxn)) (u1 : Int) : List dTxn → Int → Nat → (((Int × Int × Int) ⊕ (Int × Int)) → Option Res) → Option Res
  | [], s4, i, k =>
    k (.inr ((i : Int), s4))
  | y :: l, s4, i, k =>
    vtn y s4 (fun y1 =>
      bif y1.1 then
        k (.inl ((i : Int), (i : Int), y1.2))
      else
        vh6 u0 u1 l y1.2 (i + 1) k)
theorem wed {u0} {u1} (h0 : u0.length < 9223372036854775807) {K : (q6T ⊕ q6T) → Option Res} : ∀ (l : List dTxn) (i : Nat) (s4 : Int) (n : Nat), u0.drop i = l → l.length < n → vae vjx n (u0, u1, (u0.length : Int), (i : Int), s4) K = vh6 u0 u1 l s4 i (Sum.elim (fun z => K (.inl (u0, z.1, (u0.length : Int), z.2.1, z.2.2))) (fun z => K (.inr (u0, u1, (u0.length : Int), z.1, z.2)))) := by
  intro l
  induction l with
  | nil =>
    intro i s4 n hd hn
    have hge := vbb hd
    cases n with
    | zero => exact absurd hn (Nat.not_lt_zero _)
    | succ n => simp only [vae, vjx, vh6, hge, decide_false, cond_false, Sum.elim_inr, Sum.elim_inl]
  | cons y l ih =>
    intro i s4 n hd hn
    obtain ⟨hlt, hz, hd2, hw, hnn⟩ := vay hd h0
    have hy := vat hd
    cases n with
    | zero => exact absurd hn (Nat.not_lt_zero _)
    | succ n =>
      have ih2 := fun (s4 : Int) => ih (i + 1) s4 n hd2 (Nat.lt_of_succ_lt_succ hn)
      simp only [vae, vjx, vh6, hlt, hz, decide_true, cond_true, and_self, if_true, hy, hw, hnn, Sum.elim_inl, Sum.elim_inr, ih2]
theorem wcp {u0} {u1} (h0 : u0.length < 9223372036854775807) {K : (q6T ⊕ q6T) → Option Res} {s4 : Int} : vae vjx Fuel (u0, u1, (u0.length : Int), (0 : Int), s4) K = vh6 u0 u1 u0 s4 0 (Sum.elim (fun z => K (.inl (u0, z.1, (u0.length : Int), z.2.1, z.2.2))) (fun z => K (.inr (u0, u1, (u0.length : Int), z.1, z.2)))) :=
  wed h0 u0 0 s4 Fuel rfl (vaz h0)
def v9z (a0 : (List dTxn)) (a1 : Int) (k : (Int × Int) → Option Res) : Option Res :=
  vh6 a0 (0 : Int) a0 a1 0 (Sum.elim (fun z27 =>
    k (z27.1, z27.2.2)) (fun z28 =>
    k ((-1 : Int), z28.2)))
theorem wlq {a0 : (List dTxn)} {a1 : Int} (h0 : a0.length < 9223372036854775807) {k : (Int × Int) → Option Res} : vz2 a0 a1 k = v9z a0 a1 k := by
  rw [wa6]
  simp only [v45, v9z, (wcp h0), Sum.elim_inl, Sum.elim_inr]
def vkg (u0 : ByteArray) (u1 : Bool) : List Int → Nat → (((Bool × Int) ⊕ Int) → Option Res) → Option Res
  | [], i, k =>
    k (.inr (i : Int))
  | y :: l, i, k =>
    bif (decide (y < (97 : Int))) then
      k (.inl (false, (i : Int)))
    else
      bif (decide (y > (122 : Int))) then
        k (.inl (false, (i : Int)))
      else
        vkg u0 u1 l (i + 1) k
theorem wb7 {u0} {u1} (h0 : u0.size < 9223372036854775807) {K : ((ByteArray × Bool × Int) ⊕ (ByteArray × Bool × Int)) → Option Res} : ∀ (l : List Int) (i : Nat)  (n : Nat), (vb9 u0).drop i = l → l.length < n → vae vkk n (u0, u1, (i : Int)) K = vkg u0 u1 l  i (Sum.elim (fun z => K (.inl (u0, z.1, z.2))) (fun z => K (.inr (u0, u1, z)))) := by
  intro l
  induction l with
  | nil =>
    intro i  n hd hn
    have hge := v8a hd
    cases n with
    | zero => exact absurd hn (Nat.not_lt_zero _)
    | succ n => simp only [vae, vkk, vkg, hge, decide_false, cond_false, Sum.elim_inr, Sum.elim_inl]
  | cons y l ih =>
    intro i  n hd hn
    obtain ⟨hlt, hz, hd2, hw, hnn⟩ := v4x hd h0
    have hy := v74 hd
    cases n with
    | zero => exact absurd hn (Nat.not_lt_zero _)
    | succ n =>
      have ih2 := ih (i + 1)  n hd2 (Nat.lt_of_succ_lt_succ hn)
      simp only [vae, vkk, vkg, hlt, hz, decide_true, cond_true, and_self, if_true, hy, hw, hnn, Sum.elim_inl, Sum.elim_inr, ih2]
theorem wb8 {u0} {u1} (h0 : u0.size < 9223372036854775807) {K : ((ByteArray × Bool × Int) ⊕ (ByteArray × Bool × Int)) → Option Res}  : vae vkk Fuel (u0, u1, (0 : Int)) K = vkg u0 u1 (vb9 u0)  0 (Sum.elim (fun z => K (.inl (u0, z.1, z.2))) (fun z => K (.inr (u0, u1, z)))) :=
  wb7 h0 (vb9 u0) 0  Fuel rfl (v2v h0)
def v9l (a0 : ByteArray) (k : Bool → Option Res) : Option Res :=
  vkg a0 false (vb9 a0)  0 (Sum.elim (fun z27 =>
    k z27.1) (fun _ =>
    vfm (a0.size : Int) (1 : Int) (3 : Int) (fun y29 =>
      k y29)))
theorem wjt {a0 : ByteArray} (h0 : a0.size < 9223372036854775807) {k : Bool → Option Res} : vli a0 k = v9l a0 k := by
  rw [v89]
  simp only [v2y, v9l, (wb8 h0), Sum.elim_inl, Sum.elim_inr]
def vhr (u0 : (List vaa)) (u1 : Bool) (u2 : (List vaa)) : List vaa → Nat → (((Bool × Int) ⊕ Int) → Option Res) → Option Res
  | [], i, k =>
    k (.inr (i : Int))
  | y :: l, i, k =>
    vmq y (fun y1 =>
      bif (!y1) then
        k (.inl (false, (i : Int)))
      else
        bif (decide ((i : Int) > (0 : Int))) then
          if 0 ≤ (IntKind.wrap .i64 ((i : Int) - (1 : Int))) ∧ (IntKind.wrap .i64 ((i : Int) - (1 : Int))) < (u0.length : Int) then
            bif (!(vaf ((rd (Ty.zero tWrite) u0 (IntKind.wrap .i64 ((i : Int) - (1 : Int)))).1) (y.1))) then
              k (.inl (false, (i : Int)))
            else
              vhr u0 u1 u2 l (i + 1) k
          else none
        else
          vhr u0 u1 u2 l (i + 1) k)
theorem wcq {u0} {u1} {u2} (h0 : u2.length < 9223372036854775807) {K : (q12T ⊕ q12T) → Option Res} : ∀ (l : List vaa) (i : Nat)  (n : Nat), u2.drop i = l → l.length < n → vae vjo n (u0, u1, u2, (u2.length : Int), (i : Int)) K = vhr u0 u1 u2 l  i (Sum.elim (fun z => K (.inl (u0, z.1, u2, (u2.length : Int), z.2))) (fun z => K (.inr (u0, u1, u2, (u2.length : Int), z)))) := by
  intro l
  induction l with
  | nil =>
    intro i  n hd hn
    have hge := vbb hd
    cases n with
    | zero => exact absurd hn (Nat.not_lt_zero _)
    | succ n => simp only [vae, vjo, vhr, hge, decide_false, cond_false, Sum.elim_inr, Sum.elim_inl]
  | cons y l ih =>
    intro i  n hd hn
    obtain ⟨hlt, hz, hd2, hw, hnn⟩ := vay hd h0
    have hy := vat hd
    cases n with
    | zero => exact absurd hn (Nat.not_lt_zero _)
    | succ n =>
      have ih2 := ih (i + 1)  n hd2 (Nat.lt_of_succ_lt_succ hn)
      simp only [vae, vjo, vhr, hlt, hz, decide_true, cond_true, and_self, if_true, hy, hw, hnn, Sum.elim_inl, Sum.elim_inr, ih2]
theorem wcd {u0} {u1} {u2} (h0 : u2.length < 9223372036854775807) {K : (q12T ⊕ q12T) → Option Res}  : vae vjo Fuel (u0, u1, u2, (u2.length : Int), (0 : Int)) K = vhr u0 u1 u2 u2  0 (Sum.elim (fun z => K (.inl (u0, z.1, u2, (u2.length : Int), z.2))) (fun z => K (.inr (u0, u1, u2, (u2.length : Int), z)))) :=
  wcq h0 u2 0  Fuel rfl (vaz h0)
def v88 (a0 : (List vaa)) (k : Bool → Option Res) : Option Res :=
  vhr a0 false a0 a0  0 (Sum.elim (fun z27 =>
    k z27.1) (fun _ =>
    k (decide ((a0.length : Int) ≤ (8 : Int)))))
theorem wju {a0 : (List vaa)} (h0 : a0.length < 9223372036854775807) {k : Bool → Option Res} : vqt a0 k = v88 a0 k := by
  rw [waw]
  simp only [v2z, v88, (wcd h0), Sum.elim_inl, Sum.elim_inr]
def vb2 (u0 : Bool) (u1 : Int) (u2 : Int) (u3 : Int) (u4 : Int) (u5 : (List vag)) (u6 : (List vaa)) (u7 : Bool) (u8 : ByteArray) (k : Bool → Option Res) : Option Res :=
    bif (u2 == (2 : Int)) then
      vli u8 (fun y1 =>
        bif y1 then
          k true
        else
          bif (u2 != (2 : Int)) then
            k (vas u8 (⟨#[]⟩ : ByteArray))
          else
            k false)
    else
      bif (u2 != (2 : Int)) then
        k (vas u8 (⟨#[]⟩ : ByteArray))
      else
        k false
theorem vsx {u0} {u1} {u2} {u3} {u4} {u5} {u6} {u7} {u8}  {K : q22T → Option Res} : vbp (u0, u1, u2, u3, u4, u5, u6, u7, u8) K = vb2 u0 u1 u2 u3 u4 u5 u6 u7 u8 (fun z => K (z, u1, u2, u3, u4, u5, u6, u7, u8)) := by
  simp only [vbp, vb2, Sum.elim_inl, Sum.elim_inr]
def vc2 (u0 : Bool) (u1 : Int) (u2 : Int) (u3 : Int) (u4 : Int) (u5 : (List vag)) (u6 : (List vaa)) (u7 : Bool) (u8 : ByteArray) (k : Bool → Option Res) : Option Res :=
    bif (u2 == (3 : Int)) then
      vfm u4 (IntKind.wrap .i64 (u3 + (1 : Int))) (9999 : Int) (fun y1 =>
        bif (!y1) then
          k false
        else
          bif (u2 != (3 : Int)) then
            bif (u4 != (0 : Int)) then
              k false
            else
              vb2 u0 u1 u2 u3 u4 u5 u6 u7 u8 (fun z2 =>
                k z2)
          else
            vb2 u0 u1 u2 u3 u4 u5 u6 u7 u8 (fun z3 =>
              k z3))
    else
      bif (u2 != (3 : Int)) then
        bif (u4 != (0 : Int)) then
          k false
        else
          vb2 u0 u1 u2 u3 u4 u5 u6 u7 u8 (fun z4 =>
            k z4)
      else
        vb2 u0 u1 u2 u3 u4 u5 u6 u7 u8 (fun z5 =>
          k z5)
theorem vsk {u0} {u1} {u2} {u3} {u4} {u5} {u6} {u7} {u8}  {K : q22T → Option Res} : vca (u0, u1, u2, u3, u4, u5, u6, u7, u8) K = vc2 u0 u1 u2 u3 u4 u5 u6 u7 u8 (fun z => K (z, u1, u2, u3, u4, u5, u6, u7, u8)) := by
  simp only [vca, vc2, vsx, Sum.elim_inl, Sum.elim_inr]
def vil (u0 : Bool) (u1 : (List vag)) (u4 : Int) (u5 : Int) (u6 : Int) (u7 : Int) (u8 : (List vag)) (u9 : (List vaa)) (u10 : Bool) (u11 : ByteArray) : List vag → Nat → (((Bool × Int) ⊕ Int) → Option Res) → Option Res
  | [], i, k =>
    k (.inr (i : Int))
  | y :: l, i, k =>
    vuk y (fun y1 =>
      bif (!y1) then
        k (.inl (false, (i : Int)))
      else
        vil u0 u1 u4 u5 u6 u7 u8 u9 u10 u11 l (i + 1) k)
theorem wci {u0} {u1} {u4} {u5} {u6} {u7} {u8} {u9} {u10} {u11} (h0 : u1.length < 9223372036854775807) {K : (q16T ⊕ q16T) → Option Res} : ∀ (l : List vag) (i : Nat)  (n : Nat), u1.drop i = l → l.length < n → vae vj8 n (u0, u1, (u1.length : Int), (i : Int), u4, u5, u6, u7, u8, u9, u10, u11) K = vil u0 u1 u4 u5 u6 u7 u8 u9 u10 u11 l  i (Sum.elim (fun z => K (.inl (z.1, u1, (u1.length : Int), z.2, u4, u5, u6, u7, u8, u9, u10, u11))) (fun z => K (.inr (u0, u1, (u1.length : Int), z, u4, u5, u6, u7, u8, u9, u10, u11)))) := by
  intro l
  induction l with
  | nil =>
    intro i  n hd hn
    have hge := vbb hd
    cases n with
    | zero => exact absurd hn (Nat.not_lt_zero _)
    | succ n => simp only [vae, vj8, vil, hge, decide_false, cond_false, Sum.elim_inr, Sum.elim_inl]
  | cons y l ih =>
    intro i  n hd hn
    obtain ⟨hlt, hz, hd2, hw, hnn⟩ := vay hd h0
    have hy := vat hd
    cases n with
    | zero => exact absurd hn (Nat.not_lt_zero _)
    | succ n =>
      have ih2 := ih (i + 1)  n hd2 (Nat.lt_of_succ_lt_succ hn)
      simp only [vae, vj8, vil, hlt, hz, decide_true, cond_true, and_self, if_true, hy, hw, hnn, Sum.elim_inl, Sum.elim_inr, ih2]
theorem wcn {u0} {u1} {u4} {u5} {u6} {u7} {u8} {u9} {u10} {u11} (h0 : u1.length < 9223372036854775807) {K : (q16T ⊕ q16T) → Option Res}  : vae vj8 Fuel (u0, u1, (u1.length : Int), (0 : Int), u4, u5, u6, u7, u8, u9, u10, u11) K = vil u0 u1 u4 u5 u6 u7 u8 u9 u10 u11 u1  0 (Sum.elim (fun z => K (.inl (z.1, u1, (u1.length : Int), z.2, u4, u5, u6, u7, u8, u9, u10, u11))) (fun z => K (.inr (u0, u1, (u1.length : Int), z, u4, u5, u6, u7, u8, u9, u10, u11)))) :=
  wci h0 u1 0  Fuel rfl (vaz h0)
def wak (a0 : dTxn) (k : Bool → Option Res) : Option Res :=
  vil false a0.2.2.2.2.1 a0.1 a0.2.1 a0.2.2.1 a0.2.2.2.1 a0.2.2.2.2.1 a0.2.2.2.2.2.1 a0.2.2.2.2.2.2.1 a0.2.2.2.2.2.2.2 a0.2.2.2.2.1  0 (Sum.elim (fun z27 =>
    k z27.1) (fun _ =>
    vfm a0.1 (1 : Int) (9999 : Int) (fun y29 =>
      bif (!y29) then
        k false
      else
        vfm a0.2.1 (1 : Int) (3 : Int) (fun y30 =>
          bif (!y30) then
            k false
          else
            vfm a0.2.2.1 (0 : Int) (9999 : Int) (fun y31 =>
              bif (!y31) then
                k false
              else
                bif (decide ((a0.2.2.2.2.1.length : Int) > (8 : Int))) then
                  k false
                else
                  vqt a0.2.2.2.2.2.1 (fun y32 =>
                    bif (!y32) then
                      k false
                    else
                      bif a0.2.2.2.2.2.2.1 then
                        bif (a0.2.1 == (1 : Int)) then
                          k false
                        else
                          vc2 false a0.1 a0.2.1 a0.2.2.1 a0.2.2.2.1 a0.2.2.2.2.1 a0.2.2.2.2.2.1 a0.2.2.2.2.2.2.1 a0.2.2.2.2.2.2.2 (fun z33 =>
                            k z33)
                      else
                        vc2 false a0.1 a0.2.1 a0.2.2.1 a0.2.2.2.1 a0.2.2.2.2.1 a0.2.2.2.2.2.1 a0.2.2.2.2.2.2.1 a0.2.2.2.2.2.2.2 (fun z34 =>
                          k z34)))))))
theorem wi3 {a0 : dTxn} (h0 : a0.2.2.2.2.1.length < 9223372036854775807) {k : Bool → Option Res} : vne a0 k = wak a0 k := by
  rw [wbv]
  simp only [v29, wak, vsk, (wcn h0), Sum.elim_inl, Sum.elim_inr]
def vd3 (u0 : Bool) (u1 : Int) (u2 : Int) (u3 : Int) (u4 : Int) (u5 : (List vag)) (u6 : (List vaa)) (u7 : Bool) (u8 : ByteArray) (u9 : ByteArray) (u10 : ByteArray) (u11 : Bool) (u12 : Int) (u13 : Int) (u14 : Int) (u15 : Int) (u16 : Bool) (u17 : ByteArray) (u18 : Int) (u19 : Int) (u20 : Int) (u21 : Int) (u22 : Bool) (u23 : ByteArray) (u24 : (List vag)) (u25 : (List vaa)) (u26 : (List vag)) (u27 : (List vaa)) (k : ((Bool × (List vaa)) ⊕ q23T) → Option Res) : Option Res :=
    vuu u6 (u9, (u10, u11)) (fun y1 =>
      vne (u18, (u19, (u20, (u21, (u26, (y1, (u22, u23))))))) (fun y2 =>
        bif (!y2) then
          vlg (u1, (u2, (u3, (u4, (u5, (u6, (u7, u8))))))) (fun y3 =>
            k (.inr (false, y3.1, y3.2.1, y3.2.2.1, y3.2.2.2.1, y3.2.2.2.2.1, y3.2.2.2.2.2.1, y3.2.2.2.2.2.2.1, y3.2.2.2.2.2.2.2, y1)))
        else
          k (.inl (true, y1))))
theorem vth {u0} {u1} {u2} {u3} {u4} {u5} {u6} {u7} {u8} {u9} {u10} {u11} {u12} {u13} {u14} {u15} {u16} {u17} {u18} {u19} {u20} {u21} {u22} {u23} {u24} {u25} {u26} {u27}  {K : (q21T ⊕ q20T) → Option Res} : vcw (u0, u1, u2, u3, u4, u5, u6, u7, u8, u9, u10, u11, u12, u13, u14, u15, u16, u17, u18, u19, u20, u21, u22, u23, u24, u25, u26, u27) K = vd3 u0 u1 u2 u3 u4 u5 u6 u7 u8 u9 u10 u11 u12 u13 u14 u15 u16 u17 u18 u19 u20 u21 u22 u23 u24 u25 u26 u27 (Sum.elim (fun z => K (.inl (z.1, u1, u2, u3, u4, u5, u6, u7, u8, u9, u10, u11, u18, u19, u20, u21, u22, u23, u18, u19, u20, u21, u22, u23, u26, z.2))) (fun z => K (.inr (z.1, u1, u2, u3, u4, u5, u6, u7, u8, u9, u10, u11, z.2.1, z.2.2.1, z.2.2.2.1, z.2.2.2.2.1, z.2.2.2.2.2.1, z.2.2.2.2.2.2.1, u18, u19, u20, u21, u22, u23, z.2.2.2.2.2.2.2.1, z.2.2.2.2.2.2.2.2.1, u26, z.2.2.2.2.2.2.2.2.2)))) := by
  simp only [vcw, vd3, Sum.elim_inl, Sum.elim_inr]
def wai (a0 : dTxn) (a1 : vaa) (k : q36T → Option Res) : Option Res :=
  vlg a0 (fun y27 =>
    vne a0 (fun y28 =>
      bif (!y28) then
        k (y27.1, y27.2.1, y27.2.2.1, y27.2.2.2.1, y27.2.2.2.2.1, y27.2.2.2.2.2.1, false, y27.2.2.2.2.2.2.1, y27.2.2.2.2.2.2.2)
      else
        bif (a0.2.1 != (1 : Int)) then
          k (y27.1, y27.2.1, y27.2.2.1, y27.2.2.2.1, y27.2.2.2.2.1, y27.2.2.2.2.2.1, false, y27.2.2.2.2.2.2.1, y27.2.2.2.2.2.2.2)
        else
          vmq a1 (fun y29 =>
            bif (!y29) then
              k (y27.1, y27.2.1, y27.2.2.1, y27.2.2.2.1, y27.2.2.2.2.1, y27.2.2.2.2.2.1, false, y27.2.2.2.2.2.2.1, y27.2.2.2.2.2.2.2)
            else
              vd3 false a0.1 a0.2.1 a0.2.2.1 a0.2.2.2.1 a0.2.2.2.2.1 a0.2.2.2.2.2.1 a0.2.2.2.2.2.2.1 a0.2.2.2.2.2.2.2 a1.1 a1.2.1 a1.2.2 (0 : Int) (0 : Int) (0 : Int) (0 : Int) false (⟨#[]⟩ : ByteArray) y27.1 y27.2.1 y27.2.2.1 y27.2.2.2.1 y27.2.2.2.2.1 y27.2.2.2.2.2.1 ([] : List vag) ([] : List vaa) y27.2.2.2.2.2.2.1 y27.2.2.2.2.2.2.2 (Sum.elim (fun z30 =>
                k (y27.1, y27.2.1, y27.2.2.1, y27.2.2.2.1, y27.2.2.2.2.1, y27.2.2.2.2.2.1, z30.1, y27.2.2.2.2.2.2.1, z30.2)) (fun z31 =>
                k (z31.2.1, z31.2.2.1, z31.2.2.2.1, z31.2.2.2.2.1, z31.2.2.2.2.2.1, z31.2.2.2.2.2.2.1, z31.1, z31.2.2.2.2.2.2.2.1, z31.2.2.2.2.2.2.2.2.1))))))
theorem wkh {a0 : dTxn} {a1 : vaa}  {k : q36T → Option Res} : vuj a0 a1 k = wai a0 a1 k := by
  rw [v8y]
  simp only [v3b, wai, vth, Sum.elim_inl, Sum.elim_inr]
def viu (u0 : (List vac)) (u1 : (List vac)) (u2 : Bool) : List vac → Nat → (((Bool × Int) ⊕ Int) → Option Res) → Option Res
  | [], i, k =>
    k (.inr (i : Int))
  | y :: l, i, k =>
    if 0 ≤ (i : Int) ∧ (i : Int) < (u1.length : Int) then
      vvu y (rd (Ty.zero tVersion) u1 (i : Int)) (fun y1 =>
        bif (!y1) then
          k (.inl (false, (i : Int)))
        else
          viu u0 u1 u2 l (i + 1) k)
    else none
theorem weh {u0} {u1} {u2} (h0 : u0.length < 9223372036854775807) {K : (q8T ⊕ q8T) → Option Res} : ∀ (l : List vac) (i : Nat)  (n : Nat), u0.drop i = l → l.length < n → vae vjt n (u0, u1, u2, (i : Int)) K = viu u0 u1 u2 l  i (Sum.elim (fun z => K (.inl (u0, u1, z.1, z.2))) (fun z => K (.inr (u0, u1, u2, z)))) := by
  intro l
  induction l with
  | nil =>
    intro i  n hd hn
    have hge := vbb hd
    cases n with
    | zero => exact absurd hn (Nat.not_lt_zero _)
    | succ n => simp only [vae, vjt, viu, hge, decide_false, cond_false, Sum.elim_inr, Sum.elim_inl]
  | cons y l ih =>
    intro i  n hd hn
    obtain ⟨hlt, hz, hd2, hw, hnn⟩ := vay hd h0
    have hy := vat hd
    cases n with
    | zero => exact absurd hn (Nat.not_lt_zero _)
    | succ n =>
      have ih2 := ih (i + 1)  n hd2 (Nat.lt_of_succ_lt_succ hn)
      simp only [vae, vjt, viu, hlt, hz, decide_true, cond_true, and_self, if_true, hy, hw, hnn, Sum.elim_inl, Sum.elim_inr, ih2]
theorem wes {u0} {u1} {u2} (h0 : u0.length < 9223372036854775807) {K : (q8T ⊕ q8T) → Option Res}  : vae vjt Fuel (u0, u1, u2, (0 : Int)) K = viu u0 u1 u2 u0  0 (Sum.elim (fun z => K (.inl (u0, u1, z.1, z.2))) (fun z => K (.inr (u0, u1, u2, z)))) :=
  weh h0 u0 0  Fuel rfl (vaz h0)
def wb0 (a0 : (List vac)) (a1 : (List vac)) (k : Bool → Option Res) : Option Res :=
  bif ((a0.length : Int) != (a1.length : Int)) then
    k false
  else
    viu a0 a1 false a0  0 (Sum.elim (fun z27 =>
      k z27.1) (fun _ =>
      k true))
theorem wln {a0 : (List vac)} {a1 : (List vac)} (h0 : a0.length < 9223372036854775807) {k : Bool → Option Res} : vva a0 a1 k = wb0 a0 a1 k := by
  rw [wbg]
  simp only [v3s, wb0, (wes h0), Sum.elim_inl, Sum.elim_inr]
def vit (u0 : (List vag)) (u1 : (List vag)) (u2 : Bool) : List vag → Nat → (((Bool × Int) ⊕ Int) → Option Res) → Option Res
  | [], i, k =>
    k (.inr (i : Int))
  | y :: l, i, k =>
    if 0 ≤ (i : Int) ∧ (i : Int) < (u1.length : Int) then
      vu8 y (rd (Ty.zero tRange) u1 (i : Int)) (fun y1 =>
        bif (!y1) then
          k (.inl (false, (i : Int)))
        else
          vit u0 u1 u2 l (i + 1) k)
    else none
theorem wde {u0} {u1} {u2} (h0 : u0.length < 9223372036854775807) {K : (q0T ⊕ q0T) → Option Res} : ∀ (l : List vag) (i : Nat)  (n : Nat), u0.drop i = l → l.length < n → vae vj7 n (u0, u1, u2, (i : Int)) K = vit u0 u1 u2 l  i (Sum.elim (fun z => K (.inl (u0, u1, z.1, z.2))) (fun z => K (.inr (u0, u1, u2, z)))) := by
  intro l
  induction l with
  | nil =>
    intro i  n hd hn
    have hge := vbb hd
    cases n with
    | zero => exact absurd hn (Nat.not_lt_zero _)
    | succ n => simp only [vae, vj7, vit, hge, decide_false, cond_false, Sum.elim_inr, Sum.elim_inl]
  | cons y l ih =>
    intro i  n hd hn
    obtain ⟨hlt, hz, hd2, hw, hnn⟩ := vay hd h0
    have hy := vat hd
    cases n with
    | zero => exact absurd hn (Nat.not_lt_zero _)
    | succ n =>
      have ih2 := ih (i + 1)  n hd2 (Nat.lt_of_succ_lt_succ hn)
      simp only [vae, vj7, vit, hlt, hz, decide_true, cond_true, and_self, if_true, hy, hw, hnn, Sum.elim_inl, Sum.elim_inr, ih2]
theorem wfi {u0} {u1} {u2} (h0 : u0.length < 9223372036854775807) {K : (q0T ⊕ q0T) → Option Res}  : vae vj7 Fuel (u0, u1, u2, (0 : Int)) K = vit u0 u1 u2 u0  0 (Sum.elim (fun z => K (.inl (u0, u1, z.1, z.2))) (fun z => K (.inr (u0, u1, u2, z)))) :=
  wde h0 u0 0  Fuel rfl (vaz h0)
def v9b (a0 : (List vag)) (a1 : (List vag)) (k : Bool → Option Res) : Option Res :=
  bif ((a0.length : Int) != (a1.length : Int)) then
    k false
  else
    vit a0 a1 false a0  0 (Sum.elim (fun z27 =>
      k z27.1) (fun _ =>
      k true))
theorem wk2 {a0 : (List vag)} {a1 : (List vag)} (h0 : a0.length < 9223372036854775807) {k : Bool → Option Res} : vtt a0 a1 k = v9b a0 a1 k := by
  rw [v80]
  simp only [v3t, v9b, (wfi h0), Sum.elim_inl, Sum.elim_inr]
def vjw (u0 : (List vaa)) (u1 : (List vaa)) (u2 : Bool) : List vaa → Nat → (((Bool × Int) ⊕ Int) → Option Res) → Option Res
  | [], i, k =>
    k (.inr (i : Int))
  | y :: l, i, k =>
    if 0 ≤ (i : Int) ∧ (i : Int) < (u1.length : Int) then
      vuo y (rd (Ty.zero tWrite) u1 (i : Int)) (fun y1 =>
        bif (!y1) then
          k (.inl (false, (i : Int)))
        else
          vjw u0 u1 u2 l (i + 1) k)
    else none
theorem web {u0} {u1} {u2} (h0 : u0.length < 9223372036854775807) {K : (q11T ⊕ q11T) → Option Res} : ∀ (l : List vaa) (i : Nat)  (n : Nat), u0.drop i = l → l.length < n → vae vkc n (u0, u1, u2, (i : Int)) K = vjw u0 u1 u2 l  i (Sum.elim (fun z => K (.inl (u0, u1, z.1, z.2))) (fun z => K (.inr (u0, u1, u2, z)))) := by
  intro l
  induction l with
  | nil =>
    intro i  n hd hn
    have hge := vbb hd
    cases n with
    | zero => exact absurd hn (Nat.not_lt_zero _)
    | succ n => simp only [vae, vkc, vjw, hge, decide_false, cond_false, Sum.elim_inr, Sum.elim_inl]
  | cons y l ih =>
    intro i  n hd hn
    obtain ⟨hlt, hz, hd2, hw, hnn⟩ := vay hd h0
    have hy := vat hd
    cases n with
    | zero => exact absurd hn (Nat.not_lt_zero _)
    | succ n =>
      have ih2 := ih (i + 1)  n hd2 (Nat.lt_of_succ_lt_succ hn)
      simp only [vae, vkc, vjw, hlt, hz, decide_true, cond_true, and_self, if_true, hy, hw, hnn, Sum.elim_inl, Sum.elim_inr, ih2]
theorem wdm {u0} {u1} {u2} (h0 : u0.length < 9223372036854775807) {K : (q11T ⊕ q11T) → Option Res}  : vae vkc Fuel (u0, u1, u2, (0 : Int)) K = vjw u0 u1 u2 u0  0 (Sum.elim (fun z => K (.inl (u0, u1, z.1, z.2))) (fun z => K (.inr (u0, u1, u2, z)))) :=
  web h0 u0 0  Fuel rfl (vaz h0)
def v77 (a0 : (List vaa)) (a1 : (List vaa)) (k : Bool → Option Res) : Option Res :=
  bif ((a0.length : Int) != (a1.length : Int)) then
    k false
  else
    vjw a0 a1 false a0  0 (Sum.elim (fun z27 =>
      k z27.1) (fun _ =>
      k true))
theorem wlr {a0 : (List vaa)} {a1 : (List vaa)} (h0 : a0.length < 9223372036854775807) {k : Bool → Option Res} : vvk a0 a1 k = v77 a0 a1 k := by
  rw [v8u]
  simp only [v46, v77, (wdm h0), Sum.elim_inl, Sum.elim_inr]
def vga (u0 : (List dTxn)) (u1 : (List dTxn)) (u2 : Bool) : List dTxn → Nat → (((Bool × Int) ⊕ Int) → Option Res) → Option Res
  | [], i, k =>
    k (.inr (i : Int))
  | y :: l, i, k =>
    if 0 ≤ (i : Int) ∧ (i : Int) < (u1.length : Int) then
      vrg y (rd (Ty.zero tTxn) u1 (i : Int)) (fun y1 =>
        bif (!y1) then
          k (.inl (false, (i : Int)))
        else
          vga u0 u1 u2 l (i + 1) k)
    else none
theorem wel {u0} {u1} {u2} (h0 : u0.length < 9223372036854775807) {K : (q3T ⊕ q3T) → Option Res} : ∀ (l : List dTxn) (i : Nat)  (n : Nat), u0.drop i = l → l.length < n → vae vi8 n (u0, u1, u2, (i : Int)) K = vga u0 u1 u2 l  i (Sum.elim (fun z => K (.inl (u0, u1, z.1, z.2))) (fun z => K (.inr (u0, u1, u2, z)))) := by
  intro l
  induction l with
  | nil =>
    intro i  n hd hn
    have hge := vbb hd
    cases n with
    | zero => exact absurd hn (Nat.not_lt_zero _)
    | succ n => simp only [vae, vi8, vga, hge, decide_false, cond_false, Sum.elim_inr, Sum.elim_inl]
  | cons y l ih =>
    intro i  n hd hn
    obtain ⟨hlt, hz, hd2, hw, hnn⟩ := vay hd h0
    have hy := vat hd
    cases n with
    | zero => exact absurd hn (Nat.not_lt_zero _)
    | succ n =>
      have ih2 := ih (i + 1)  n hd2 (Nat.lt_of_succ_lt_succ hn)
      simp only [vae, vi8, vga, hlt, hz, decide_true, cond_true, and_self, if_true, hy, hw, hnn, Sum.elim_inl, Sum.elim_inr, ih2]
theorem wdp {u0} {u1} {u2} (h0 : u0.length < 9223372036854775807) {K : (q3T ⊕ q3T) → Option Res}  : vae vi8 Fuel (u0, u1, u2, (0 : Int)) K = vga u0 u1 u2 u0  0 (Sum.elim (fun z => K (.inl (u0, u1, z.1, z.2))) (fun z => K (.inr (u0, u1, u2, z)))) :=
  wel h0 u0 0  Fuel rfl (vaz h0)
def v3x (a0 : (List dTxn)) (a1 : (List dTxn)) (k : Bool → Option Res) : Option Res :=
  bif ((a0.length : Int) != (a1.length : Int)) then
    k false
  else
    vga a0 a1 false a0  0 (Sum.elim (fun z27 =>
      k z27.1) (fun _ =>
      k true))
theorem whf {a0 : (List dTxn)} {a1 : (List dTxn)} (h0 : a0.length < 9223372036854775807) {k : Bool → Option Res} : vm6 a0 a1 k = v3x a0 a1 k := by
  rw [v7y]
  simp only [v4t, v3x, (wdp h0), Sum.elim_inl, Sum.elim_inr]
def vid (u0 : (List vac)) (u2 : Int) : List vac → Int → Nat → (((Int × Int × Int) ⊕ (Int × Int)) → Option Res) → Option Res
  | [], s1, i, k =>
    k (.inr (s1, (i : Int)))
  | y :: l, s1, i, k =>
    vb5 s1 (fun y1 =>
      bif (!(vas (y.1) y1)) then
        k (.inl (s1, (-1 : Int), (i : Int)))
      else
        vb5 (IntKind.wrap .i64 (s1 + (1 : Int))) (fun y2 =>
          bif (!(vas (y.2.1) y2)) then
            k (.inl ((IntKind.wrap .i64 (s1 + (1 : Int))), (-1 : Int), (i : Int)))
          else
            bif (!(y.2.2.1 == (((IntKind.wrap .i64 ((IntKind.wrap .i64 (s1 + (1 : Int))) + (1 : Int))).tmod (3 : Int)) == (0 : Int)))) then
              k (.inl ((IntKind.wrap .i64 ((IntKind.wrap .i64 (s1 + (1 : Int))) + (1 : Int))), (-1 : Int), (i : Int)))
            else
              bif (y.2.2.2 != (IntKind.wrap .i64 ((IntKind.wrap .i64 ((IntKind.wrap .i64 (s1 + (1 : Int))) + (1 : Int))) + (1 : Int)))) then
                k (.inl ((IntKind.wrap .i64 ((IntKind.wrap .i64 ((IntKind.wrap .i64 (s1 + (1 : Int))) + (1 : Int))) + (1 : Int))), (-1 : Int), (i : Int)))
              else
                vid u0 u2 l (IntKind.wrap .i64 ((IntKind.wrap .i64 ((IntKind.wrap .i64 ((IntKind.wrap .i64 (s1 + (1 : Int))) + (1 : Int))) + (1 : Int))) + (1 : Int))) (i + 1) k))
theorem wc2 {u0} {u2} (h0 : u0.length < 9223372036854775807) {K : (q10T ⊕ q10T) → Option Res} : ∀ (l : List vac) (i : Nat) (s1 : Int) (n : Nat), u0.drop i = l → l.length < n → vae vki n (u0, s1, u2, (i : Int)) K = vid u0 u2 l s1 i (Sum.elim (fun z => K (.inl (u0, z.1, z.2.1, z.2.2))) (fun z => K (.inr (u0, z.1, u2, z.2)))) := by
  intro l
  induction l with
  | nil =>
    intro i s1 n hd hn
    have hge := vbb hd
    cases n with
    | zero => exact absurd hn (Nat.not_lt_zero _)
    | succ n => simp only [vae, vki, vid, hge, decide_false, cond_false, Sum.elim_inr, Sum.elim_inl]
  | cons y l ih =>
    intro i s1 n hd hn
    obtain ⟨hlt, hz, hd2, hw, hnn⟩ := vay hd h0
    have hy := vat hd
    cases n with
    | zero => exact absurd hn (Nat.not_lt_zero _)
    | succ n =>
      have ih2 := fun (s1 : Int) => ih (i + 1) s1 n hd2 (Nat.lt_of_succ_lt_succ hn)
      simp only [vae, vki, vid, hlt, hz, decide_true, cond_true, and_self, if_true, hy, hw, hnn, Sum.elim_inl, Sum.elim_inr, ih2]
theorem wem {u0} {u2} (h0 : u0.length < 9223372036854775807) {K : (q10T ⊕ q10T) → Option Res} {s1 : Int} : vae vki Fuel (u0, s1, u2, (0 : Int)) K = vid u0 u2 u0 s1 0 (Sum.elim (fun z => K (.inl (u0, z.1, z.2.1, z.2.2))) (fun z => K (.inr (u0, z.1, u2, z.2)))) :=
  wc2 h0 u0 0 s1 Fuel rfl (vaz h0)
def v8i (a0 : (List vac)) (a1 : Int) (k : Int → Option Res) : Option Res :=
  vid a0 (0 : Int) a0 a1 0 (Sum.elim (fun z27 =>
    k z27.2.1) (fun z28 =>
    k z28.1))
theorem wkn {a0 : (List vac)} {a1 : Int} (h0 : a0.length < 9223372036854775807) {k : Int → Option Res} : vvn a0 a1 k = v8i a0 a1 k := by
  rw [v87]
  simp only [v5o, v8i, (wem h0), Sum.elim_inl, Sum.elim_inr]
def vh1 (u0 : (List vag)) (u2 : Int) : List vag → Int → Nat → (((Int × Int × Int) ⊕ (Int × Int)) → Option Res) → Option Res
  | [], s1, i, k =>
    k (.inr (s1, (i : Int)))
  | y :: l, s1, i, k =>
    vb5 s1 (fun y1 =>
      bif (!(vas (y.1) y1)) then
        k (.inl (s1, (-1 : Int), (i : Int)))
      else
        vb5 (IntKind.wrap .i64 (s1 + (1 : Int))) (fun y2 =>
          bif (!(vas (y.2) y2)) then
            k (.inl ((IntKind.wrap .i64 (s1 + (1 : Int))), (-1 : Int), (i : Int)))
          else
            vh1 u0 u2 l (IntKind.wrap .i64 ((IntKind.wrap .i64 (s1 + (1 : Int))) + (1 : Int))) (i + 1) k))
theorem wce {u0} {u2} (h0 : u0.length < 9223372036854775807) {K : (q2T ⊕ q2T) → Option Res} : ∀ (l : List vag) (i : Nat) (s1 : Int) (n : Nat), u0.drop i = l → l.length < n → vae vjq n (u0, s1, u2, (i : Int)) K = vh1 u0 u2 l s1 i (Sum.elim (fun z => K (.inl (u0, z.1, z.2.1, z.2.2))) (fun z => K (.inr (u0, z.1, u2, z.2)))) := by
  intro l
  induction l with
  | nil =>
    intro i s1 n hd hn
    have hge := vbb hd
    cases n with
    | zero => exact absurd hn (Nat.not_lt_zero _)
    | succ n => simp only [vae, vjq, vh1, hge, decide_false, cond_false, Sum.elim_inr, Sum.elim_inl]
  | cons y l ih =>
    intro i s1 n hd hn
    obtain ⟨hlt, hz, hd2, hw, hnn⟩ := vay hd h0
    have hy := vat hd
    cases n with
    | zero => exact absurd hn (Nat.not_lt_zero _)
    | succ n =>
      have ih2 := fun (s1 : Int) => ih (i + 1) s1 n hd2 (Nat.lt_of_succ_lt_succ hn)
      simp only [vae, vjq, vh1, hlt, hz, decide_true, cond_true, and_self, if_true, hy, hw, hnn, Sum.elim_inl, Sum.elim_inr, ih2]
theorem wct {u0} {u2} (h0 : u0.length < 9223372036854775807) {K : (q2T ⊕ q2T) → Option Res} {s1 : Int} : vae vjq Fuel (u0, s1, u2, (0 : Int)) K = vh1 u0 u2 u0 s1 0 (Sum.elim (fun z => K (.inl (u0, z.1, z.2.1, z.2.2))) (fun z => K (.inr (u0, z.1, u2, z.2)))) :=
  wce h0 u0 0 s1 Fuel rfl (vaz h0)
def v9s (a0 : (List vag)) (a1 : Int) (k : Int → Option Res) : Option Res :=
  vh1 a0 (0 : Int) a0 a1 0 (Sum.elim (fun z27 =>
    k z27.2.1) (fun z28 =>
    k z28.1))
theorem wi2 {a0 : (List vag)} {a1 : Int} (h0 : a0.length < 9223372036854775807) {k : Int → Option Res} : vpx a0 a1 k = v9s a0 a1 k := by
  rw [wbm]
  simp only [v3f, v9s, (wct h0), Sum.elim_inl, Sum.elim_inr]
def via (u0 : (List vaa)) (u2 : Int) : List vaa → Int → Nat → (((Int × Int × Int) ⊕ (Int × Int)) → Option Res) → Option Res
  | [], s1, i, k =>
    k (.inr (s1, (i : Int)))
  | y :: l, s1, i, k =>
    vb5 s1 (fun y1 =>
      bif (!(vas (y.1) y1)) then
        k (.inl (s1, (-1 : Int), (i : Int)))
      else
        vb5 (IntKind.wrap .i64 (s1 + (1 : Int))) (fun y2 =>
          bif (!(vas (y.2.1) y2)) then
            k (.inl ((IntKind.wrap .i64 (s1 + (1 : Int))), (-1 : Int), (i : Int)))
          else
            bif (!(y.2.2 == (((IntKind.wrap .i64 ((IntKind.wrap .i64 (s1 + (1 : Int))) + (1 : Int))).tmod (3 : Int)) == (0 : Int)))) then
              k (.inl ((IntKind.wrap .i64 ((IntKind.wrap .i64 (s1 + (1 : Int))) + (1 : Int))), (-1 : Int), (i : Int)))
            else
              via u0 u2 l (IntKind.wrap .i64 ((IntKind.wrap .i64 ((IntKind.wrap .i64 (s1 + (1 : Int))) + (1 : Int))) + (1 : Int))) (i + 1) k))
theorem wey {u0} {u2} (h0 : u0.length < 9223372036854775807) {K : (q15T ⊕ q15T) → Option Res} : ∀ (l : List vaa) (i : Nat) (s1 : Int) (n : Nat), u0.drop i = l → l.length < n → vae vj2 n (u0, s1, u2, (i : Int)) K = via u0 u2 l s1 i (Sum.elim (fun z => K (.inl (u0, z.1, z.2.1, z.2.2))) (fun z => K (.inr (u0, z.1, u2, z.2)))) := by
  intro l
  induction l with
  | nil =>
    intro i s1 n hd hn
    have hge := vbb hd
    cases n with
    | zero => exact absurd hn (Nat.not_lt_zero _)
    | succ n => simp only [vae, vj2, via, hge, decide_false, cond_false, Sum.elim_inr, Sum.elim_inl]
  | cons y l ih =>
    intro i s1 n hd hn
    obtain ⟨hlt, hz, hd2, hw, hnn⟩ := vay hd h0
    have hy := vat hd
    cases n with
    | zero => exact absurd hn (Nat.not_lt_zero _)
    | succ n =>
      have ih2 := fun (s1 : Int) => ih (i + 1) s1 n hd2 (Nat.lt_of_succ_lt_succ hn)
      simp only [vae, vj2, via, hlt, hz, decide_true, cond_true, and_self, if_true, hy, hw, hnn, Sum.elim_inl, Sum.elim_inr, ih2]
theorem wc5 {u0} {u2} (h0 : u0.length < 9223372036854775807) {K : (q15T ⊕ q15T) → Option Res} {s1 : Int} : vae vj2 Fuel (u0, s1, u2, (0 : Int)) K = via u0 u2 u0 s1 0 (Sum.elim (fun z => K (.inl (u0, z.1, z.2.1, z.2.2))) (fun z => K (.inr (u0, z.1, u2, z.2)))) :=
  wey h0 u0 0 s1 Fuel rfl (vaz h0)
def wag (a0 : (List vaa)) (a1 : Int) (k : Int → Option Res) : Option Res :=
  via a0 (0 : Int) a0 a1 0 (Sum.elim (fun z27 =>
    k z27.2.1) (fun z28 =>
    k z28.1))
theorem wjc {a0 : (List vaa)} {a1 : Int} (h0 : a0.length < 9223372036854775807) {k : Int → Option Res} : vp0 a0 a1 k = wag a0 a1 k := by
  rw [waq]
  simp only [v49, wag, (wc5 h0), Sum.elim_inl, Sum.elim_inr]
def vhy (u0 : (List dTxn)) (u2 : Int) : List dTxn → Int → Nat → (((Int × Int × Int) ⊕ (Int × Int)) → Option Res) → Option Res
  | [], s1, i, k =>
    k (.inr (s1, (i : Int)))
  | y :: l, s1, i, k =>
    bif (y.1 != s1) then
      k (.inl (s1, (-1 : Int), (i : Int)))
    else
      bif (y.2.1 != (IntKind.wrap .i64 (s1 + (1 : Int)))) then
        k (.inl ((IntKind.wrap .i64 (s1 + (1 : Int))), (-1 : Int), (i : Int)))
      else
        bif (y.2.2.1 != (IntKind.wrap .i64 ((IntKind.wrap .i64 (s1 + (1 : Int))) + (1 : Int)))) then
          k (.inl ((IntKind.wrap .i64 ((IntKind.wrap .i64 (s1 + (1 : Int))) + (1 : Int))), (-1 : Int), (i : Int)))
        else
          bif (y.2.2.2.1 != (IntKind.wrap .i64 ((IntKind.wrap .i64 ((IntKind.wrap .i64 (s1 + (1 : Int))) + (1 : Int))) + (1 : Int)))) then
            k (.inl ((IntKind.wrap .i64 ((IntKind.wrap .i64 ((IntKind.wrap .i64 (s1 + (1 : Int))) + (1 : Int))) + (1 : Int))), (-1 : Int), (i : Int)))
          else
            vpx y.2.2.2.2.1 (IntKind.wrap .i64 ((IntKind.wrap .i64 ((IntKind.wrap .i64 ((IntKind.wrap .i64 (s1 + (1 : Int))) + (1 : Int))) + (1 : Int))) + (1 : Int))) (fun y1 =>
              bif (decide (y1 < (0 : Int))) then
                k (.inl (y1, (-1 : Int), (i : Int)))
              else
                vp0 y.2.2.2.2.2.1 y1 (fun y2 =>
                  bif (decide (y2 < (0 : Int))) then
                    k (.inl (y2, (-1 : Int), (i : Int)))
                  else
                    bif (!(y.2.2.2.2.2.2.1 == ((y2.tmod (3 : Int)) == (0 : Int)))) then
                      k (.inl (y2, (-1 : Int), (i : Int)))
                    else
                      vb5 (IntKind.wrap .i64 (y2 + (1 : Int))) (fun y3 =>
                        bif (!(vas (y.2.2.2.2.2.2.2) y3)) then
                          k (.inl ((IntKind.wrap .i64 (y2 + (1 : Int))), (-1 : Int), (i : Int)))
                        else
                          vhy u0 u2 l (IntKind.wrap .i64 ((IntKind.wrap .i64 (y2 + (1 : Int))) + (1 : Int))) (i + 1) k)))
theorem weu {u0} {u2} (h0 : u0.length < 9223372036854775807) {K : (q7T ⊕ q7T) → Option Res} : ∀ (l : List dTxn) (i : Nat) (s1 : Int) (n : Nat), u0.drop i = l → l.length < n → vae vjr n (u0, s1, u2, (i : Int)) K = vhy u0 u2 l s1 i (Sum.elim (fun z => K (.inl (u0, z.1, z.2.1, z.2.2))) (fun z => K (.inr (u0, z.1, u2, z.2)))) := by
  intro l
  induction l with
  | nil =>
    intro i s1 n hd hn
    have hge := vbb hd
    cases n with
    | zero => exact absurd hn (Nat.not_lt_zero _)
    | succ n => simp only [vae, vjr, vhy, hge, decide_false, cond_false, Sum.elim_inr, Sum.elim_inl]
  | cons y l ih =>
    intro i s1 n hd hn
    obtain ⟨hlt, hz, hd2, hw, hnn⟩ := vay hd h0
    have hy := vat hd
    cases n with
    | zero => exact absurd hn (Nat.not_lt_zero _)
    | succ n =>
      have ih2 := fun (s1 : Int) => ih (i + 1) s1 n hd2 (Nat.lt_of_succ_lt_succ hn)
      simp only [vae, vjr, vhy, hlt, hz, decide_true, cond_true, and_self, if_true, hy, hw, hnn, Sum.elim_inl, Sum.elim_inr, ih2]
theorem wcb {u0} {u2} (h0 : u0.length < 9223372036854775807) {K : (q7T ⊕ q7T) → Option Res} {s1 : Int} : vae vjr Fuel (u0, s1, u2, (0 : Int)) K = vhy u0 u2 u0 s1 0 (Sum.elim (fun z => K (.inl (u0, z.1, z.2.1, z.2.2))) (fun z => K (.inr (u0, z.1, u2, z.2)))) :=
  weu h0 u0 0 s1 Fuel rfl (vaz h0)
def wa1 (a0 : (List dTxn)) (a1 : Int) (k : Int → Option Res) : Option Res :=
  vhy a0 (0 : Int) a0 a1 0 (Sum.elim (fun z27 =>
    k z27.2.1) (fun z28 =>
    k z28.1))
theorem wj0 {a0 : (List dTxn)} {a1 : Int} (h0 : a0.length < 9223372036854775807) {k : Int → Option Res} : vog a0 a1 k = wa1 a0 a1 k := by
  rw [v83]
  simp only [v4b, wa1, (wcb h0), Sum.elim_inl, Sum.elim_inr]
def vd6 (u0 : Bool) (u1 : Int) (u2 : Int) (u3 : Int) (u4 : (List vac)) (u5 : (List dTxn)) (u6 : (List dTxn)) (u7 : (List dTxn)) (k : Bool → Option Res) : Option Res :=
    vnj ((u4, (u5, (u6, (u2, u3)))), u7) (1 : Int) (fun y1 =>
      bif (decide (y1 < (0 : Int))) then
        k false
      else
        bif (y1 != u1) then
          k false
        else
          k true)
theorem vsq {u0} {u1} {u2} {u3} {u4} {u5} {u6} {u7}  {K : q19T → Option Res} : vcv (u0, u1, u2, u3, u4, u5, u6, u7) K = vd6 u0 u1 u2 u3 u4 u5 u6 u7 (fun z => K (z, u1, u2, u3, u4, u5, u6, u7)) := by
  simp only [vcv, vd6, Sum.elim_inl, Sum.elim_inr]
def vd5 (u0 : Int) (u1 : Bool) (u2 : Int) (u3 : (List vac)) (u4 : (List dTxn)) (u5 : (List dTxn)) (u6 : Int) (u7 : Int) (u8 : (List dTxn)) (u9 : ByteArray) (u10 : ByteArray) (u11 : Bool) (u12 : Int) (u13 : Int) (u14 : Int) (u15 : Int) (u16 : (List vac)) (u17 : (List dTxn)) (u18 : (List dTxn)) (u19 : (List dTxn)) (u20 : (List vac)) (u21 : (List dTxn)) (u22 : (List dTxn)) (u23 : (List dTxn)) (k : (q17T ⊕ q17T) → Option Res) : Option Res :=
    vmn u14 u15 (1 : Int) u20 u21 u22 u23 (fun y1 =>
      vnj ((y1.2.1, (y1.2.2.1, (y1.2.2.2.1, (u14, u15)))), y1.2.2.2.2) (1 : Int) (fun y2 =>
        bif (decide (y2 < (0 : Int))) then
          k (.inl (false, y1.2.1, y1.2.2.1, y1.2.2.2.1, y1.2.2.2.2))
        else
          bif (y2 != y1.1) then
            k (.inl (false, y1.2.1, y1.2.2.1, y1.2.2.2.1, y1.2.2.2.2))
          else
            vg7 ((u3, (u4, (u5, (u6, u7)))), u8) (fun y3 =>
              vig (u9, (u10, u11)) (fun y4 =>
                vop ((y3.2.2.1, (y3.2.2.2.1, (y3.2.2.2.2.1, (y3.1, y3.2.1)))), y3.2.2.2.2.2) u0 y4 (fun y5 =>
                  vfl ((y5.2.2.2.1, (y5.2.2.2.2.1, (y5.2.2.2.2.2.1, (y5.1, y5.2.1)))), y5.2.2.2.2.2.2) ((u16, (u17, (u18, (u12, u13)))), u19) (fun y6 =>
                    bif (!y6) then
                      k (.inl (false, y1.2.1, y1.2.2.1, y1.2.2.2.1, y1.2.2.2.2))
                    else
                      bif (y5.2.2.1 != u2) then
                        k (.inl (false, y1.2.1, y1.2.2.1, y1.2.2.2.1, y1.2.2.2.2))
                      else
                        vd6 u1 y1.1 u14 u15 y1.2.1 y1.2.2.1 y1.2.2.2.1 y1.2.2.2.2 (fun z7 =>
                          k (.inr (z7, y1.2.1, y1.2.2.1, y1.2.2.2.1, y1.2.2.2.2)))))))))
theorem vsp {u0} {u1} {u2} {u3} {u4} {u5} {u6} {u7} {u8} {u9} {u10} {u11} {u12} {u13} {u14} {u15} {u16} {u17} {u18} {u19} {u20} {u21} {u22} {u23}  {K : (q28T ⊕ q18T) → Option Res} : vcy (u0, u1, u2, u3, u4, u5, u6, u7, u8, u9, u10, u11, u12, u13, u14, u15, u16, u17, u18, u19, u20, u21, u22, u23) K = vd5 u0 u1 u2 u3 u4 u5 u6 u7 u8 u9 u10 u11 u12 u13 u14 u15 u16 u17 u18 u19 u20 u21 u22 u23 (Sum.elim (fun z => K (.inl (u0, z.1, u2, u3, u4, u5, u6, u7, u8, u9, u10, u11, u12, u13, u14, u15, u16, u17, u18, u19, z.2.1, z.2.2.1, z.2.2.2.1, z.2.2.2.2))) (fun z => K (.inr (z.1, u14, u15, z.2.1, z.2.2.1, z.2.2.2.1, z.2.2.2.2)))) := by
  simp only [vcy, vd5, vsq, Sum.elim_inl, Sum.elim_inr]
def vea (u0 : Int) (u1 : Bool) (u2 : Int) (u3 : Int) (u4 : (List vac)) (u5 : (List dTxn)) (u6 : (List dTxn)) (u7 : Int) (u8 : Int) (u9 : (List dTxn)) (u10 : ByteArray) (u11 : ByteArray) (u12 : Bool) (u13 : Int) (u14 : Int) (u15 : Int) (u16 : Int) (u17 : Int) (u18 : Int) (u19 : (List vac)) (u20 : (List dTxn)) (u21 : (List dTxn)) (u22 : (List dTxn)) (u23 : (List vac)) (u24 : (List dTxn)) (u25 : (List dTxn)) (u26 : (List dTxn)) (u27 : (List vac)) (u28 : (List dTxn)) (u29 : (List dTxn)) (u30 : (List dTxn)) (k : (q17T ⊕ (q17T ⊕ q17T)) → Option Res) : Option Res :=
    vg7 ((u4, (u5, (u6, (u7, u8)))), u9) (fun y1 =>
      vfl ((u23, (u24, (u25, (u15, u16)))), u26) ((y1.2.2.1, (y1.2.2.2.1, (y1.2.2.2.2.1, (y1.1, y1.2.1)))), y1.2.2.2.2.2) (fun y2 =>
        bif (!y2) then
          k (.inl (false, u23, u24, u25, u26))
        else
          vmn u15 u16 (1 : Int) u23 u24 u25 u26 (fun y3 =>
            bif (decide (y3.1 < (0 : Int))) then
              k (.inl (false, y3.2.1, y3.2.2.1, y3.2.2.2.1, y3.2.2.2.2))
            else
              vfl ((u27, (u28, (u29, (u17, u18)))), u30) ((u19, (u20, (u21, (u13, u14)))), u22) (fun y4 =>
                bif (!y4) then
                  k (.inl (false, y3.2.1, y3.2.2.1, y3.2.2.2.1, y3.2.2.2.2))
                else
                  bif (u3 != u2) then
                    k (.inl (false, y3.2.1, y3.2.2.1, y3.2.2.2.1, y3.2.2.2.2))
                  else
                    vd5 u0 u1 u2 u4 u5 u6 u7 u8 u9 u10 u11 u12 u13 u14 u17 u18 u19 u20 u21 u22 u27 u28 u29 u30 (Sum.elim (fun z5 =>
                      k (.inr (.inl (z5.1, z5.2.1, z5.2.2.1, z5.2.2.2.1, z5.2.2.2.2)))) (fun z6 =>
                      k (.inr (.inr (z6.1, z6.2.1, z6.2.2.1, z6.2.2.2.1, z6.2.2.2.2)))))))))
theorem vso {u0} {u1} {u2} {u3} {u4} {u5} {u6} {u7} {u8} {u9} {u10} {u11} {u12} {u13} {u14} {u15} {u16} {u17} {u18} {u19} {u20} {u21} {u22} {u23} {u24} {u25} {u26} {u27} {u28} {u29} {u30}  {K : (q29T ⊕ (q28T ⊕ q18T)) → Option Res} : vcp (u0, u1, u2, u3, u4, u5, u6, u7, u8, u9, u10, u11, u12, u13, u14, u15, u16, u17, u18, u19, u20, u21, u22, u23, u24, u25, u26, u27, u28, u29, u30) K = vea u0 u1 u2 u3 u4 u5 u6 u7 u8 u9 u10 u11 u12 u13 u14 u15 u16 u17 u18 u19 u20 u21 u22 u23 u24 u25 u26 u27 u28 u29 u30 (Sum.elim (fun z => K (.inl (u0, z.1, u2, u3, u4, u5, u6, u7, u8, u9, u10, u11, u12, u13, u14, u15, u16, u17, u18, u19, u20, u21, u22, z.2.1, z.2.2.1, z.2.2.2.1, z.2.2.2.2, u27, u28, u29, u30))) (Sum.elim (fun z => K (.inr (.inl (u0, z.1, u2, u4, u5, u6, u7, u8, u9, u10, u11, u12, u13, u14, u17, u18, u19, u20, u21, u22, z.2.1, z.2.2.1, z.2.2.2.1, z.2.2.2.2)))) (fun z => K (.inr (.inr (z.1, u17, u18, z.2.1, z.2.2.1, z.2.2.2.1, z.2.2.2.2)))))) := by
  simp only [vcp, vea, vsp, Sum.elim_inl, Sum.elim_inr]
def waa (a0 : va8) (a1 : Int) (a2 : vaa) (k : Bool → Option Res) : Option Res :=
  vun a0 (1048576 : Int) (fun y27 =>
    bif (decide (y27 < (0 : Int))) then
      k true
    else
      vod a2 y27 (fun y28 =>
        bif (decide (y28 < (0 : Int))) then
          k true
        else
          vg7 a0 (fun y29 =>
            vig a2 (fun y30 =>
              vvz ((y29.2.2.1, (y29.2.2.2.1, (y29.2.2.2.2.1, (y29.1, y29.2.1)))), y29.2.2.2.2.2) a1 y30 (fun y31 =>
                vg7 a0 (fun y32 =>
                  vig a2 (fun y33 =>
                    vop ((y32.2.2.1, (y32.2.2.2.1, (y32.2.2.2.2.1, (y32.1, y32.2.1)))), y32.2.2.2.2.2) a1 y33 (fun y34 =>
                      vfl ((y34.2.2.2.1, (y34.2.2.2.2.1, (y34.2.2.2.2.2.1, (y34.1, y34.2.1)))), y34.2.2.2.2.2.2) ((y31.2.2.2.1, (y31.2.2.2.2.1, (y31.2.2.2.2.2.1, (y31.1, y31.2.1)))), y31.2.2.2.2.2.2) (fun y35 =>
                        bif (!y35) then
                          k false
                        else
                          bif (y34.2.2.1 != y31.2.2.1) then
                            k false
                          else
                            vea a1 false y31.2.2.1 y34.2.2.1 a0.1.1 a0.1.2.1 a0.1.2.2.1 a0.1.2.2.2.1 a0.1.2.2.2.2 a0.2 a2.1 a2.2.1 a2.2.2 y31.1 y31.2.1 y32.1 y32.2.1 y34.1 y34.2.1 y31.2.2.2.1 y31.2.2.2.2.1 y31.2.2.2.2.2.1 y31.2.2.2.2.2.2 y32.2.2.1 y32.2.2.2.1 y32.2.2.2.2.1 y32.2.2.2.2.2 y34.2.2.2.1 y34.2.2.2.2.1 y34.2.2.2.2.2.1 y34.2.2.2.2.2.2 (Sum.elim (fun z36 =>
                              k z36.1) (Sum.elim (fun z37 =>
                              k z37.1) (fun z38 =>
                              k z38.1))))))))))))
theorem wi6 {a0 : va8} {a1 : Int} {a2 : vaa}  {k : Bool → Option Res} : vz8 a0 a1 a2 k = waa a0 a1 a2 k := by
  rw [wa2]
  simp only [v4v, waa, vso, Sum.elim_inl, Sum.elim_inr]
end
end Go.VE
