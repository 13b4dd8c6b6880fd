/- Loops told as recursions over what is left; written by gen.py. -/
import Derived.Test.YteolgjmeigifbaaBeginN
import Derived.Test.YteolgjmeigifbaaP1
namespace Go.VE
noncomputable section
set_option linter.unusedVariables false
set_option linter.unusedSimpArgs false
set_option maxRecDepth 100000
def vpg (u0 : (List vac)) (u2 : Int) : List vac → Int → Nat → (((Int × Int × Int) ⊕ (Int × Int)) → Option Res) → Option Res
  | [], s1, i, k =>
    k (.inr (s1, (i : Int)))
  | y :: l, s1, i, k =>
    vw0 y s1 (fun y1 =>
      bif (decide (y1 < (0 : Int))) then
        k (.inl (y1, (-1 : Int), (i : Int)))
      else
        vpg u0 u2 l y1 (i + 1) k)
theorem wof {u0} {u2} (h0 : u0.length < 9223372036854775807) {K : (q15T ⊕ q15T) → Option Res} : ∀ (l : List vac) (i : Nat) (s1 : Int) (n : Nat), u0.drop i = l → l.length < n → vah vkd n (u0, s1, u2, (i : Int)) K = vpg u0 u2 l s1 i (Sum.elim (fun z => K (.inl (u0, z.1, z.2.1, z.2.2))) (fun z => K (.inr (u0, z.1, u2, z.2)))) := by
  intro l
  induction l with
  | nil =>
    intro i s1 n hd hn
    have hge := va6 hd
    cases n with
    | zero => exact absurd hn (Nat.not_lt_zero _)
    | succ n => simp only [vah, vkd, vpg, hge, decide_false, cond_false, Sum.elim_inr, Sum.elim_inl]
  | cons y l ih =>
    intro i s1 n hd hn
    obtain ⟨hlt, hz, hd2, hw, hnn⟩ := vay hd h0
    have hy := vaw hd
    cases n with
    | zero => exact absurd hn (Nat.not_lt_zero _)
    | succ n =>
      have ih2 := fun (s1 : Int) => ih (i + 1) s1 n hd2 (Nat.lt_of_succ_lt_succ hn)
      simp only [vah, vkd, vpg, hlt, hz, decide_true, cond_true, and_self, if_true, hy, hw, hnn, Sum.elim_inl, Sum.elim_inr, ih2]
theorem wo0 {u0} {u2} (h0 : u0.length < 9223372036854775807) {K : (q15T ⊕ q15T) → Option Res} {s1 : Int} : vah vkd Fuel (u0, s1, u2, (0 : Int)) K = vpg u0 u2 u0 s1 0 (Sum.elim (fun z => K (.inl (u0, z.1, z.2.1, z.2.2))) (fun z => K (.inr (u0, z.1, u2, z.2)))) :=
  wof h0 u0 0 s1 Fuel rfl (vaz h0)
def vp3 (u0 : (List van)) (u2 : Int) : List van → Int → Nat → (((Int × Int × Int) ⊕ (Int × Int)) → Option Res) → Option Res
  | [], s1, i, k =>
    k (.inr (s1, (i : Int)))
  | y :: l, s1, i, k =>
    vw8 y s1 (fun y1 =>
      bif (decide (y1 < (0 : Int))) then
        k (.inl (y1, (-1 : Int), (i : Int)))
      else
        vp3 u0 u2 l y1 (i + 1) k)
theorem wpq {u0} {u2} (h0 : u0.length < 9223372036854775807) {K : (q4T ⊕ q4T) → Option Res} : ∀ (l : List van) (i : Nat) (s1 : Int) (n : Nat), u0.drop i = l → l.length < n → vah vjv n (u0, s1, u2, (i : Int)) K = vp3 u0 u2 l s1 i (Sum.elim (fun z => K (.inl (u0, z.1, z.2.1, z.2.2))) (fun z => K (.inr (u0, z.1, u2, z.2)))) := by
  intro l
  induction l with
  | nil =>
    intro i s1 n hd hn
    have hge := va6 hd
    cases n with
    | zero => exact absurd hn (Nat.not_lt_zero _)
    | succ n => simp only [vah, vjv, vp3, hge, decide_false, cond_false, Sum.elim_inr, Sum.elim_inl]
  | cons y l ih =>
    intro i s1 n hd hn
    obtain ⟨hlt, hz, hd2, hw, hnn⟩ := vay hd h0
    have hy := vaw hd
    cases n with
    | zero => exact absurd hn (Nat.not_lt_zero _)
    | succ n =>
      have ih2 := fun (s1 : Int) => ih (i + 1) s1 n hd2 (Nat.lt_of_succ_lt_succ hn)
      simp only [vah, vjv, vp3, hlt, hz, decide_true, cond_true, and_self, if_true, hy, hw, hnn, Sum.elim_inl, Sum.elim_inr, ih2]
theorem wn8 {u0} {u2} (h0 : u0.length < 9223372036854775807) {K : (q4T ⊕ q4T) → Option Res} {s1 : Int} : vah vjv Fuel (u0, s1, u2, (0 : Int)) K = vp3 u0 u2 u0 s1 0 (Sum.elim (fun z => K (.inl (u0, z.1, z.2.1, z.2.2))) (fun z => K (.inr (u0, z.1, u2, z.2)))) :=
  wpq h0 u0 0 s1 Fuel rfl (vaz h0)
def vpx (u0 : (List vaj)) (u2 : Int) : List vaj → Int → Nat → (((Int × Int × Int) ⊕ (Int × Int)) → Option Res) → Option Res
  | [], s1, i, k =>
    k (.inr (s1, (i : Int)))
  | y :: l, s1, i, k =>
    vv1 y s1 (fun y1 =>
      bif (decide (y1 < (0 : Int))) then
        k (.inl (y1, (-1 : Int), (i : Int)))
      else
        vpx u0 u2 l y1 (i + 1) k)
theorem wrc {u0} {u2} (h0 : u0.length < 9223372036854775807) {K : (q19T ⊕ q19T) → Option Res} : ∀ (l : List vaj) (i : Nat) (s1 : Int) (n : Nat), u0.drop i = l → l.length < n → vah vle n (u0, s1, u2, (i : Int)) K = vpx u0 u2 l s1 i (Sum.elim (fun z => K (.inl (u0, z.1, z.2.1, z.2.2))) (fun z => K (.inr (u0, z.1, u2, z.2)))) := by
  intro l
  induction l with
  | nil =>
    intro i s1 n hd hn
    have hge := va6 hd
    cases n with
    | zero => exact absurd hn (Nat.not_lt_zero _)
    | succ n => simp only [vah, vle, vpx, hge, decide_false, cond_false, Sum.elim_inr, Sum.elim_inl]
  | cons y l ih =>
    intro i s1 n hd hn
    obtain ⟨hlt, hz, hd2, hw, hnn⟩ := vay hd h0
    have hy := vaw hd
    cases n with
    | zero => exact absurd hn (Nat.not_lt_zero _)
    | succ n =>
      have ih2 := fun (s1 : Int) => ih (i + 1) s1 n hd2 (Nat.lt_of_succ_lt_succ hn)
      simp only [vah, vle, vpx, hlt, hz, decide_true, cond_true, and_self, if_true, hy, hw, hnn, Sum.elim_inl, Sum.elim_inr, ih2]
theorem wo3 {u0} {u2} (h0 : u0.length < 9223372036854775807) {K : (q19T ⊕ q19T) → Option Res} {s1 : Int} : vah vle Fuel (u0, s1, u2, (0 : Int)) K = vpx u0 u2 u0 s1 0 (Sum.elim (fun z => K (.inl (u0, z.1, z.2.1, z.2.2))) (fun z => K (.inr (u0, z.1, u2, z.2)))) :=
  wrc h0 u0 0 s1 Fuel rfl (vaz h0)
def vp0 (u0 : (List dTxn)) (u2 : Int) : List dTxn → Int → Nat → (((Int × Int × Int) ⊕ (Int × Int)) → Option Res) → Option Res
  | [], s1, i, k =>
    k (.inr (s1, (i : Int)))
  | y :: l, s1, i, k =>
    vwh y s1 (fun y1 =>
      bif (decide (y1 < (0 : Int))) then
        k (.inl (y1, (-1 : Int), (i : Int)))
      else
        vp0 u0 u2 l y1 (i + 1) k)
theorem wry {u0} {u2} (h0 : u0.length < 9223372036854775807) {K : (q10T ⊕ q10T) → Option Res} : ∀ (l : List dTxn) (i : Nat) (s1 : Int) (n : Nat), u0.drop i = l → l.length < n → vah vj4 n (u0, s1, u2, (i : Int)) K = vp0 u0 u2 l s1 i (Sum.elim (fun z => K (.inl (u0, z.1, z.2.1, z.2.2))) (fun z => K (.inr (u0, z.1, u2, z.2)))) := by
  intro l
  induction l with
  | nil =>
    intro i s1 n hd hn
    have hge := va6 hd
    cases n with
    | zero => exact absurd hn (Nat.not_lt_zero _)
    | succ n => simp only [vah, vj4, vp0, hge, decide_false, cond_false, Sum.elim_inr, Sum.elim_inl]
  | cons y l ih =>
    intro i s1 n hd hn
    obtain ⟨hlt, hz, hd2, hw, hnn⟩ := vay hd h0
    have hy := vaw hd
    cases n with
    | zero => exact absurd hn (Nat.not_lt_zero _)
    | succ n =>
      have ih2 := fun (s1 : Int) => ih (i + 1) s1 n hd2 (Nat.lt_of_succ_lt_succ hn)
      simp only [vah, vj4, vp0, hlt, hz, decide_true, cond_true, and_self, if_true, hy, hw, hnn, Sum.elim_inl, Sum.elim_inr, ih2]
theorem wok {u0} {u2} (h0 : u0.length < 9223372036854775807) {K : (q10T ⊕ q10T) → Option Res} {s1 : Int} : vah vj4 Fuel (u0, s1, u2, (0 : Int)) K = vp0 u0 u2 u0 s1 0 (Sum.elim (fun z => K (.inl (u0, z.1, z.2.1, z.2.2))) (fun z => K (.inr (u0, z.1, u2, z.2)))) :=
  wry h0 u0 0 s1 Fuel rfl (vaz h0)
def vij (u0 : (List vac)) : List vac → (List vac) → Nat → ((Int × (List vac)) → Option Res) → Option Res
  | [], s2, i, k =>
    k ((i : Int), s2)
  | y :: l, s2, i, k =>
    vwe y (fun y1 =>
      if 0 ≤ (i : Int) ∧ (i : Int) < (s2.length : Int) then
        vij u0 l (s2.set (i : Int).toNat y1) (i + 1) k
      else none)
theorem wp8 {u0} (h0 : u0.length < 9223372036854775807) {K : q14T → Option Res} : ∀ (l : List vac) (i : Nat) (s2 : (List vac)) (n : Nat), u0.drop i = l → l.length < n → vah vkg n (u0, (i : Int), s2) K = vij u0 l s2 i (fun z => K (u0, z.1, z.2)) := by
  intro l
  induction l with
  | nil =>
    intro i s2 n hd hn
    have hge := va6 hd
    cases n with
    | zero => exact absurd hn (Nat.not_lt_zero _)
    | succ n => simp only [vah, vkg, vij, hge, decide_false, cond_false, Sum.elim_inr, Sum.elim_inl]
  | cons y l ih =>
    intro i s2 n hd hn
    obtain ⟨hlt, hz, hd2, hw, hnn⟩ := vay hd h0
    have hy := vaw hd
    cases n with
    | zero => exact absurd hn (Nat.not_lt_zero _)
    | succ n =>
      have ih2 := fun (s2 : (List vac)) => ih (i + 1) s2 n hd2 (Nat.lt_of_succ_lt_succ hn)
      simp only [vah, vkg, vij, hlt, hz, decide_true, cond_true, and_self, if_true, hy, hw, hnn, Sum.elim_inl, Sum.elim_inr, ih2]
theorem wpn {u0} (h0 : u0.length < 9223372036854775807) {K : q14T → Option Res} {s2 : (List vac)} : vah vkg Fuel (u0, (0 : Int), s2) K = vij u0 u0 s2 0 (fun z => K (u0, z.1, z.2)) :=
  wp8 h0 u0 0 s2 Fuel rfl (vaz h0)
def wlp (a0 : (List vac)) (k : (List vac) → Option Res) : Option Res :=
  if 0 ≤ (a0.length : Int) ∧ (a0.length : Int) ≤ (a0.length : Int) ∧ (a0.length : Int) ≤ (VE.maxLen : Int) then
    vij a0 a0 (List.replicate (a0.length : Int).toNat (Ty.zero tVersion)) 0 (fun z23 =>
      k z23.2)
  else none
theorem ww1 {a0 : (List vac)} (h0 : a0.length < 9223372036854775807) {k : (List vac) → Option Res} : vws a0 k = wlp a0 k := by
  rw [wkm]
  simp only [wc9, wlp, (wpn h0), Sum.elim_inl, Sum.elim_inr]
def vix (u0 : (List van)) : List van → (List van) → Nat → ((Int × (List van)) → Option Res) → Option Res
  | [], s2, i, k =>
    k ((i : Int), s2)
  | y :: l, s2, i, k =>
    vxd y (fun y1 =>
      if 0 ≤ (i : Int) ∧ (i : Int) < (s2.length : Int) then
        vix u0 l (s2.set (i : Int).toNat y1) (i + 1) k
      else none)
theorem wsc {u0} (h0 : u0.length < 9223372036854775807) {K : q3T → Option Res} : ∀ (l : List van) (i : Nat) (s2 : (List van)) (n : Nat), u0.drop i = l → l.length < n → vah vkc n (u0, (i : Int), s2) K = vix u0 l s2 i (fun z => K (u0, z.1, z.2)) := by
  intro l
  induction l with
  | nil =>
    intro i s2 n hd hn
    have hge := va6 hd
    cases n with
    | zero => exact absurd hn (Nat.not_lt_zero _)
    | succ n => simp only [vah, vkc, vix, hge, decide_false, cond_false, Sum.elim_inr, Sum.elim_inl]
  | cons y l ih =>
    intro i s2 n hd hn
    obtain ⟨hlt, hz, hd2, hw, hnn⟩ := vay hd h0
    have hy := vaw hd
    cases n with
    | zero => exact absurd hn (Nat.not_lt_zero _)
    | succ n =>
      have ih2 := fun (s2 : (List van)) => ih (i + 1) s2 n hd2 (Nat.lt_of_succ_lt_succ hn)
      simp only [vah, vkc, vix, hlt, hz, decide_true, cond_true, and_self, if_true, hy, hw, hnn, Sum.elim_inl, Sum.elim_inr, ih2]
theorem wnh {u0} (h0 : u0.length < 9223372036854775807) {K : q3T → Option Res} {s2 : (List van)} : vah vkc Fuel (u0, (0 : Int), s2) K = vix u0 u0 s2 0 (fun z => K (u0, z.1, z.2)) :=
  wsc h0 u0 0 s2 Fuel rfl (vaz h0)
def wf9 (a0 : (List van)) (k : (List van) → Option Res) : Option Res :=
  if 0 ≤ (a0.length : Int) ∧ (a0.length : Int) ≤ (a0.length : Int) ∧ (a0.length : Int) ≤ (VE.maxLen : Int) then
    vix a0 a0 (List.replicate (a0.length : Int).toNat (Ty.zero tRange)) 0 (fun z23 =>
      k z23.2)
  else none
theorem w3k {a0 : (List van)} (h0 : a0.length < 9223372036854775807) {k : (List van) → Option Res} : vwz a0 k = wf9 a0 k := by
  rw [wjq]
  simp only [wad, wf9, (wnh h0), Sum.elim_inl, Sum.elim_inr]
def vih (u0 : (List vaj)) : List vaj → (List vaj) → Nat → ((Int × (List vaj)) → Option Res) → Option Res
  | [], s2, i, k =>
    k ((i : Int), s2)
  | y :: l, s2, i, k =>
    vu0 y (fun y1 =>
      if 0 ≤ (i : Int) ∧ (i : Int) < (s2.length : Int) then
        vih u0 l (s2.set (i : Int).toNat y1) (i + 1) k
      else none)
theorem won {u0} (h0 : u0.length < 9223372036854775807) {K : q18T → Option Res} : ∀ (l : List vaj) (i : Nat) (s2 : (List vaj)) (n : Nat), u0.drop i = l → l.length < n → vah vjm n (u0, (i : Int), s2) K = vih u0 l s2 i (fun z => K (u0, z.1, z.2)) := by
  intro l
  induction l with
  | nil =>
    intro i s2 n hd hn
    have hge := va6 hd
    cases n with
    | zero => exact absurd hn (Nat.not_lt_zero _)
    | succ n => simp only [vah, vjm, vih, hge, decide_false, cond_false, Sum.elim_inr, Sum.elim_inl]
  | cons y l ih =>
    intro i s2 n hd hn
    obtain ⟨hlt, hz, hd2, hw, hnn⟩ := vay hd h0
    have hy := vaw hd
    cases n with
    | zero => exact absurd hn (Nat.not_lt_zero _)
    | succ n =>
      have ih2 := fun (s2 : (List vaj)) => ih (i + 1) s2 n hd2 (Nat.lt_of_succ_lt_succ hn)
      simp only [vah, vjm, vih, hlt, hz, decide_true, cond_true, and_self, if_true, hy, hw, hnn, Sum.elim_inl, Sum.elim_inr, ih2]
theorem wr8 {u0} (h0 : u0.length < 9223372036854775807) {K : q18T → Option Res} {s2 : (List vaj)} : vah vjm Fuel (u0, (0 : Int), s2) K = vih u0 u0 s2 0 (fun z => K (u0, z.1, z.2)) :=
  won h0 u0 0 s2 Fuel rfl (vaz h0)
def wka (a0 : (List vaj)) (k : (List vaj) → Option Res) : Option Res :=
  if 0 ≤ (a0.length : Int) ∧ (a0.length : Int) ≤ (a0.length : Int) ∧ (a0.length : Int) ≤ (VE.maxLen : Int) then
    vih a0 a0 (List.replicate (a0.length : Int).toNat (Ty.zero tWrite)) 0 (fun z23 =>
      k z23.2)
  else none
theorem w2f {a0 : (List vaj)} (h0 : a0.length < 9223372036854775807) {k : (List vaj) → Option Res} : vvl a0 k = wka a0 k := by
  rw [wkz]
  simp only [wcl, wka, (wr8 h0), Sum.elim_inl, Sum.elim_inr]
def vir (u0 : (List dTxn)) : List dTxn → (List dTxn) → Nat → ((Int × (List dTxn)) → Option Res) → Option Res
  | [], s2, i, k =>
    k ((i : Int), s2)
  | y :: l, s2, i, k =>
    vt1 y (fun y1 =>
      if 0 ≤ (i : Int) ∧ (i : Int) < (s2.length : Int) then
        vir u0 l (s2.set (i : Int).toNat (y1.1, (y1.2.1, (y1.2.2.1, (y1.2.2.2.1, (y1.2.2.2.2.2.2.1, (y1.2.2.2.2.2.2.2, (y1.2.2.2.2.1, y1.2.2.2.2.2.1)))))))) (i + 1) k
      else none)
theorem wr2 {u0} (h0 : u0.length < 9223372036854775807) {K : q6T → Option Res} : ∀ (l : List dTxn) (i : Nat) (s2 : (List dTxn)) (n : Nat), u0.drop i = l → l.length < n → vah vks n (u0, (i : Int), s2) K = vir u0 l s2 i (fun z => K (u0, z.1, z.2)) := by
  intro l
  induction l with
  | nil =>
    intro i s2 n hd hn
    have hge := va6 hd
    cases n with
    | zero => exact absurd hn (Nat.not_lt_zero _)
    | succ n => simp only [vah, vks, vir, hge, decide_false, cond_false, Sum.elim_inr, Sum.elim_inl]
  | cons y l ih =>
    intro i s2 n hd hn
    obtain ⟨hlt, hz, hd2, hw, hnn⟩ := vay hd h0
    have hy := vaw hd
    cases n with
    | zero => exact absurd hn (Nat.not_lt_zero _)
    | succ n =>
      have ih2 := fun (s2 : (List dTxn)) => ih (i + 1) s2 n hd2 (Nat.lt_of_succ_lt_succ hn)
      simp only [vah, vks, vir, hlt, hz, decide_true, cond_true, and_self, if_true, hy, hw, hnn, Sum.elim_inl, Sum.elim_inr, ih2]
theorem wnl {u0} (h0 : u0.length < 9223372036854775807) {K : q6T → Option Res} {s2 : (List dTxn)} : vah vks Fuel (u0, (0 : Int), s2) K = vir u0 u0 s2 0 (fun z => K (u0, z.1, z.2)) :=
  wr2 h0 u0 0 s2 Fuel rfl (vaz h0)
def wig (a0 : (List dTxn)) (k : (List dTxn) → Option Res) : Option Res :=
  if 0 ≤ (a0.length : Int) ∧ (a0.length : Int) ≤ (a0.length : Int) ∧ (a0.length : Int) ≤ (VE.maxLen : Int) then
    vir a0 a0 (List.replicate (a0.length : Int).toNat (Ty.zero tTxn)) 0 (fun z23 =>
      k z23.2)
  else none
theorem wwd {a0 : (List dTxn)} (h0 : a0.length < 9223372036854775807) {k : (List dTxn) → Option Res} : vq0 a0 k = wig a0 k := by
  rw [wlr]
  simp only [wea, wig, (wnl h0), Sum.elim_inl, Sum.elim_inr]
def vjs (u0 : (List dTxn)) : List dTxn → (List dTxn) → Nat → ((Int × (List dTxn)) → Option Res) → Option Res
  | [], s2, i, k =>
    k ((i : Int), s2)
  | y :: l, s2, i, k =>
    vwc y (fun y1 =>
      if s2.length + [(y1.1, (y1.2.1, (y1.2.2.1, (y1.2.2.2.1, (y1.2.2.2.2.2.2.1, (y1.2.2.2.2.2.2.2, (y1.2.2.2.2.1, y1.2.2.2.2.2.1)))))))].length ≤ VE.maxLen then
        vjs u0 l (s2 ++ [(y1.1, (y1.2.1, (y1.2.2.1, (y1.2.2.2.1, (y1.2.2.2.2.2.2.1, (y1.2.2.2.2.2.2.2, (y1.2.2.2.2.1, y1.2.2.2.2.2.1)))))))]) (i + 1) k
      else none)
theorem wqd {u0} (h0 : u0.length < 9223372036854775807) {K : q6T → Option Res} : ∀ (l : List dTxn) (i : Nat) (s2 : (List dTxn)) (n : Nat), u0.drop i = l → l.length < n → vah vlb n (u0, (i : Int), s2) K = vjs u0 l s2 i (fun z => K (u0, z.1, z.2)) := by
  intro l
  induction l with
  | nil =>
    intro i s2 n hd hn
    have hge := va6 hd
    cases n with
    | zero => exact absurd hn (Nat.not_lt_zero _)
    | succ n => simp only [vah, vlb, vjs, hge, decide_false, cond_false, Sum.elim_inr, Sum.elim_inl]
  | cons y l ih =>
    intro i s2 n hd hn
    obtain ⟨hlt, hz, hd2, hw, hnn⟩ := vay hd h0
    have hy := vaw hd
    cases n with
    | zero => exact absurd hn (Nat.not_lt_zero _)
    | succ n =>
      have ih2 := fun (s2 : (List dTxn)) => ih (i + 1) s2 n hd2 (Nat.lt_of_succ_lt_succ hn)
      simp only [vah, vlb, vjs, hlt, hz, decide_true, cond_true, and_self, if_true, hy, hw, hnn, Sum.elim_inl, Sum.elim_inr, ih2]
theorem wqh {u0} (h0 : u0.length < 9223372036854775807) {K : q6T → Option Res} {s2 : (List dTxn)} : vah vlb Fuel (u0, (0 : Int), s2) K = vjs u0 u0 s2 0 (fun z => K (u0, z.1, z.2)) :=
  wqd h0 u0 0 s2 Fuel rfl (vaz h0)
def wgd (a0 : (List dTxn)) (k : (List dTxn) → Option Res) : Option Res :=
  vjs a0 a0 ([] : List dTxn) 0 (fun z23 =>
    k z23.2)
theorem wy3 {a0 : (List dTxn)} (h0 : a0.length < 9223372036854775807) {k : (List dTxn) → Option Res} : vqt a0 k = wgd a0 k := by
  rw [wjy]
  simp only [wd7, wgd, (wqh h0), Sum.elim_inl, Sum.elim_inr]
def vl0 (u0 : ByteArray) (u1 : Bool) : List Int → Nat → (((Bool × Int) ⊕ Int) → Option Res) → Option Res
  | [], i, k =>
    k (.inr (i : Int))
  | y :: l, i, k =>
    bif (decide (y < (97 : Int))) then
      k (.inl (false, (i : Int)))
    else
      bif (decide (y > (122 : Int))) then
        k (.inl (false, (i : Int)))
      else
        vl0 u0 u1 l (i + 1) k
theorem wre {u0} {u1} (h0 : u0.size < 9223372036854775807) {K : ((ByteArray × Bool × Int) ⊕ (ByteArray × Bool × Int)) → Option Res} : ∀ (l : List Int) (i : Nat)  (n : Nat), (vcs u0).drop i = l → l.length < n → vah vj0 n (u0, u1, (i : Int)) K = vl0 u0 u1 l  i (Sum.elim (fun z => K (.inl (u0, z.1, z.2))) (fun z => K (.inr (u0, u1, z)))) := by
  intro l
  induction l with
  | nil =>
    intro i  n hd hn
    have hge := wj4 hd
    cases n with
    | zero => exact absurd hn (Nat.not_lt_zero _)
    | succ n => simp only [vah, vj0, vl0, hge, decide_false, cond_false, Sum.elim_inr, Sum.elim_inl]
  | cons y l ih =>
    intro i  n hd hn
    obtain ⟨hlt, hz, hd2, hw, hnn⟩ := wb2 hd h0
    have hy := wic hd
    cases n with
    | zero => exact absurd hn (Nat.not_lt_zero _)
    | succ n =>
      have ih2 := ih (i + 1)  n hd2 (Nat.lt_of_succ_lt_succ hn)
      simp only [vah, vj0, vl0, hlt, hz, decide_true, cond_true, and_self, if_true, hy, hw, hnn, Sum.elim_inl, Sum.elim_inr, ih2]
theorem wr6 {u0} {u1} (h0 : u0.size < 9223372036854775807) {K : ((ByteArray × Bool × Int) ⊕ (ByteArray × Bool × Int)) → Option Res}  : vah vj0 Fuel (u0, u1, (0 : Int)) K = vl0 u0 u1 (vcs u0)  0 (Sum.elim (fun z => K (.inl (u0, z.1, z.2))) (fun z => K (.inr (u0, u1, z)))) :=
  wre h0 (vcs u0) 0  Fuel rfl (wct h0)
def wg3 (a0 : ByteArray) (k : Bool → Option Res) : Option Res :=
  vl0 a0 false (vcs a0)  0 (Sum.elim (fun z23 =>
    k z23.1) (fun _ =>
    vdg (a0.size : Int) (1 : Int) (3 : Int) (fun y25 =>
      k y25)))
theorem w08 {a0 : ByteArray} (h0 : a0.size < 9223372036854775807) {k : Bool → Option Res} : vi1 a0 k = wg3 a0 k := by
  rw [wja]
  simp only [wdn, wg3, (wr6 h0), Sum.elim_inl, Sum.elim_inr]
def vd7 (u0 : (List vac)) (u1 : Bool) (u2 : Int) (u3 : ByteArray) (u4 : ByteArray) (u5 : Bool) (u6 : Int) (k : (Bool ⊕ Unit) → Option Res) : Option Res :=
    bif (decide (u2 > (0 : Int))) then
      if 0 ≤ (IntKind.wrap .i64 (u2 - (1 : Int))) ∧ (IntKind.wrap .i64 (u2 - (1 : Int))) < (u0.length : Int) then
        bif (!((va2 ((rd (Ty.zero tVersion) u0 (IntKind.wrap .i64 (u2 - (1 : Int)))).1) u3) || (vbd ((rd (Ty.zero tVersion) u0 (IntKind.wrap .i64 (u2 - (1 : Int)))).1) u3))) then
          k (.inl false)
        else
          if 0 ≤ (IntKind.wrap .i64 (u2 - (1 : Int))) ∧ (IntKind.wrap .i64 (u2 - (1 : Int))) < (u0.length : Int) then
            bif (vbd ((rd (Ty.zero tVersion) u0 (IntKind.wrap .i64 (u2 - (1 : Int)))).1) u3) then
              if 0 ≤ (IntKind.wrap .i64 (u2 - (1 : Int))) ∧ (IntKind.wrap .i64 (u2 - (1 : Int))) < (u0.length : Int) then
                bif (decide ((rd (Ty.zero tVersion) u0 (IntKind.wrap .i64 (u2 - (1 : Int)))).2.2.2 ≥ u6)) then
                  k (.inl false)
                else
                  k (.inr ())
              else none
            else
              k (.inr ())
          else none
      else none
    else
      k (.inr ())
theorem vok {u0} {u1} {u2} {u3} {u4} {u5} {u6}  {K : (q13T ⊕ q13T) → Option Res} : vcj (u0, u1, u2, u3, u4, u5, u6) K = vd7 u0 u1 u2 u3 u4 u5 u6 (Sum.elim (fun z => K (.inl (u0, z, u2, u3, u4, u5, u6))) (fun _ => K (.inr (u0, u1, u2, u3, u4, u5, u6)))) := by
  simp only [vcj, vd7, Sum.elim_inl, Sum.elim_inr]
def vjg (u0 : (List vac)) (u1 : Bool) : List vac → Nat → (((Bool × Int) ⊕ Int) → Option Res) → Option Res
  | [], i, k =>
    k (.inr (i : Int))
  | y :: l, i, k =>
    vi1 y.1 (fun y1 =>
      bif (!y1) then
        k (.inl (false, (i : Int)))
      else
        bif (decide ((y.2.1.size : Int) > (12 : Int))) then
          k (.inl (false, (i : Int)))
        else
          bif y.2.2.1 then
            bif (!(vbd (y.2.1) (⟨#[]⟩ : ByteArray))) then
              k (.inl (false, (i : Int)))
            else
              vdg y.2.2.2 (1 : Int) (9999 : Int) (fun y2 =>
                bif (!y2) then
                  k (.inl (false, (i : Int)))
                else
                  vd7 u0 u1 (i : Int) y.1 y.2.1 y.2.2.1 y.2.2.2 (Sum.elim (fun z3 =>
                    k (.inl (z3, (i : Int)))) (fun _ =>
                    vjg u0 u1 l (i + 1) k)))
          else
            vdg y.2.2.2 (1 : Int) (9999 : Int) (fun y5 =>
              bif (!y5) then
                k (.inl (false, (i : Int)))
              else
                vd7 u0 u1 (i : Int) y.1 y.2.1 y.2.2.1 y.2.2.2 (Sum.elim (fun z6 =>
                  k (.inl (z6, (i : Int)))) (fun _ =>
                  vjg u0 u1 l (i + 1) k))))
theorem wrw {u0} {u1} (h0 : u0.length < 9223372036854775807) {K : (((List vac) × Bool × Int) ⊕ ((List vac) × Bool × Int)) → Option Res} : ∀ (l : List vac) (i : Nat)  (n : Nat), u0.drop i = l → l.length < n → vah vk2 n (u0, u1, (i : Int)) K = vjg u0 u1 l  i (Sum.elim (fun z => K (.inl (u0, z.1, z.2))) (fun z => K (.inr (u0, u1, z)))) := by
  intro l
  induction l with
  | nil =>
    intro i  n hd hn
    have hge := va6 hd
    cases n with
    | zero => exact absurd hn (Nat.not_lt_zero _)
    | succ n => simp only [vah, vk2, vjg, hge, decide_false, cond_false, Sum.elim_inr, Sum.elim_inl, vok]
  | cons y l ih =>
    intro i  n hd hn
    obtain ⟨hlt, hz, hd2, hw, hnn⟩ := vay hd h0
    have hy := vaw hd
    cases n with
    | zero => exact absurd hn (Nat.not_lt_zero _)
    | succ n =>
      have ih2 := ih (i + 1)  n hd2 (Nat.lt_of_succ_lt_succ hn)
      simp only [vah, vk2, vjg, hlt, hz, decide_true, cond_true, and_self, if_true, hy, hw, hnn, Sum.elim_inl, Sum.elim_inr, ih2, vok]
theorem wmv {u0} {u1} (h0 : u0.length < 9223372036854775807) {K : (((List vac) × Bool × Int) ⊕ ((List vac) × Bool × Int)) → Option Res}  : vah vk2 Fuel (u0, u1, (0 : Int)) K = vjg u0 u1 u0  0 (Sum.elim (fun z => K (.inl (u0, z.1, z.2))) (fun z => K (.inr (u0, u1, z)))) :=
  wrw h0 u0 0  Fuel rfl (vaz h0)
def wiw (a0 : (List vac)) (k : Bool → Option Res) : Option Res :=
  vjg a0 false a0  0 (Sum.elim (fun z23 =>
    k z23.1) (fun _ =>
    k (decide ((a0.length : Int) ≤ (120 : Int)))))
theorem w3t {a0 : (List vac)} (h0 : a0.length < 9223372036854775807) {k : Bool → Option Res} : vty a0 k = wiw a0 k := by
  rw [wj0]
  simp only [web, wiw, (wmv h0), Sum.elim_inl, Sum.elim_inr]
def vjr (u0 : (List vaj)) (u1 : Bool) : List vaj → Nat → (((Bool × Int) ⊕ Int) → Option Res) → Option Res
  | [], i, k =>
    k (.inr (i : Int))
  | y :: l, i, k =>
    vw2 y (fun y1 =>
      bif (!y1) then
        k (.inl (false, (i : Int)))
      else
        bif (decide ((i : Int) > (0 : Int))) then
          if 0 ≤ (IntKind.wrap .i64 ((i : Int) - (1 : Int))) ∧ (IntKind.wrap .i64 ((i : Int) - (1 : Int))) < (u0.length : Int) then
            bif (!(va2 ((rd (Ty.zero tWrite) u0 (IntKind.wrap .i64 ((i : Int) - (1 : Int)))).1) (y.1))) then
              k (.inl (false, (i : Int)))
            else
              vjr u0 u1 l (i + 1) k
          else none
        else
          vjr u0 u1 l (i + 1) k)
theorem wou {u0} {u1} (h0 : u0.length < 9223372036854775807) {K : (((List vaj) × Bool × Int) ⊕ ((List vaj) × Bool × Int)) → Option Res} : ∀ (l : List vaj) (i : Nat)  (n : Nat), u0.drop i = l → l.length < n → vah vjf n (u0, u1, (i : Int)) K = vjr u0 u1 l  i (Sum.elim (fun z => K (.inl (u0, z.1, z.2))) (fun z => K (.inr (u0, u1, z)))) := by
  intro l
  induction l with
  | nil =>
    intro i  n hd hn
    have hge := va6 hd
    cases n with
    | zero => exact absurd hn (Nat.not_lt_zero _)
    | succ n => simp only [vah, vjf, vjr, hge, decide_false, cond_false, Sum.elim_inr, Sum.elim_inl]
  | cons y l ih =>
    intro i  n hd hn
    obtain ⟨hlt, hz, hd2, hw, hnn⟩ := vay hd h0
    have hy := vaw hd
    cases n with
    | zero => exact absurd hn (Nat.not_lt_zero _)
    | succ n =>
      have ih2 := ih (i + 1)  n hd2 (Nat.lt_of_succ_lt_succ hn)
      simp only [vah, vjf, vjr, hlt, hz, decide_true, cond_true, and_self, if_true, hy, hw, hnn, Sum.elim_inl, Sum.elim_inr, ih2]
theorem wrr {u0} {u1} (h0 : u0.length < 9223372036854775807) {K : (((List vaj) × Bool × Int) ⊕ ((List vaj) × Bool × Int)) → Option Res}  : vah vjf Fuel (u0, u1, (0 : Int)) K = vjr u0 u1 u0  0 (Sum.elim (fun z => K (.inl (u0, z.1, z.2))) (fun z => K (.inr (u0, u1, z)))) :=
  wou h0 u0 0  Fuel rfl (vaz h0)
def wiu (a0 : (List vaj)) (k : Bool → Option Res) : Option Res :=
  vjr a0 false a0  0 (Sum.elim (fun z23 =>
    k z23.1) (fun _ =>
    k (decide ((a0.length : Int) ≤ (8 : Int)))))
theorem wyp {a0 : (List vaj)} (h0 : a0.length < 9223372036854775807) {k : Bool → Option Res} : vtx a0 k = wiu a0 k := by
  rw [wi0]
  simp only [v96, wiu, (wrr h0), Sum.elim_inl, Sum.elim_inr]
def vcp (u0 : Bool) (u1 : Int) (u2 : Int) (u3 : Int) (u4 : Int) (u5 : (List van)) (u6 : (List vaj)) (u7 : Bool) (u8 : ByteArray) (k : Bool → Option Res) : Option Res :=
    bif (u2 != (1 : Int)) then
      k true
    else
      k (!u7)
theorem vyu {u0} {u1} {u2} {u3} {u4} {u5} {u6} {u7} {u8}  {K : q36T → Option Res} : vb4 (u0, u1, u2, u3, u4, u5, u6, u7, u8) K = vcp u0 u1 u2 u3 u4 u5 u6 u7 u8 (fun z => K (z, u1, u2, u3, u4, u5, u6, u7, u8)) := by
  simp only [vb4, vcp, Sum.elim_inl, Sum.elim_inr]
def vcr (u0 : Bool) (u1 : Int) (u2 : Int) (u3 : Int) (u4 : Int) (u5 : (List van)) (u6 : (List vaj)) (u7 : Bool) (u8 : ByteArray) (k : Bool → Option Res) : Option Res :=
    bif (u2 == (2 : Int)) then
      vi1 u8 (fun y1 =>
        bif (!y1) then
          k false
        else
          bif (u2 != (2 : Int)) then
            bif (!(vbd u8 (⟨#[]⟩ : ByteArray))) then
              k false
            else
              vcp u0 u1 u2 u3 u4 u5 u6 u7 u8 (fun z2 =>
                k z2)
          else
            vcp u0 u1 u2 u3 u4 u5 u6 u7 u8 (fun z3 =>
              k z3))
    else
      bif (u2 != (2 : Int)) then
        bif (!(vbd u8 (⟨#[]⟩ : ByteArray))) then
          k false
        else
          vcp u0 u1 u2 u3 u4 u5 u6 u7 u8 (fun z4 =>
            k z4)
      else
        vcp u0 u1 u2 u3 u4 u5 u6 u7 u8 (fun z5 =>
          k z5)
theorem vxt {u0} {u1} {u2} {u3} {u4} {u5} {u6} {u7} {u8}  {K : q36T → Option Res} : vb6 (u0, u1, u2, u3, u4, u5, u6, u7, u8) K = vcr u0 u1 u2 u3 u4 u5 u6 u7 u8 (fun z => K (z, u1, u2, u3, u4, u5, u6, u7, u8)) := by
  simp only [vb6, vcr, vyu, Sum.elim_inl, Sum.elim_inr]
def vl7 (u0 : Bool) (u2 : Int) (u3 : Int) (u4 : Int) (u5 : Int) (u6 : (List van)) (u7 : (List vaj)) (u8 : Bool) (u9 : ByteArray) : List van → Nat → (((Bool × Int) ⊕ Int) → Option Res) → Option Res
  | [], i, k =>
    k (.inr (i : Int))
  | y :: l, i, k =>
    vwj y (fun y1 =>
      bif (!y1) then
        k (.inl (false, (i : Int)))
      else
        vl7 u0 u2 u3 u4 u5 u6 u7 u8 u9 l (i + 1) k)
theorem wnv {u0} {u2} {u3} {u4} {u5} {u6} {u7} {u8} {u9} (h0 : u6.length < 9223372036854775807) {K : (q38T ⊕ q38T) → Option Res} : ∀ (l : List van) (i : Nat)  (n : Nat), u6.drop i = l → l.length < n → vah vjo n (u0, (i : Int), u2, u3, u4, u5, u6, u7, u8, u9) K = vl7 u0 u2 u3 u4 u5 u6 u7 u8 u9 l  i (Sum.elim (fun z => K (.inl (z.1, z.2, u2, u3, u4, u5, u6, u7, u8, u9))) (fun z => K (.inr (u0, z, u2, u3, u4, u5, u6, u7, u8, u9)))) := by
  intro l
  induction l with
  | nil =>
    intro i  n hd hn
    have hge := va6 hd
    cases n with
    | zero => exact absurd hn (Nat.not_lt_zero _)
    | succ n => simp only [vah, vjo, vl7, hge, decide_false, cond_false, Sum.elim_inr, Sum.elim_inl]
  | cons y l ih =>
    intro i  n hd hn
    obtain ⟨hlt, hz, hd2, hw, hnn⟩ := vay hd h0
    have hy := vaw hd
    cases n with
    | zero => exact absurd hn (Nat.not_lt_zero _)
    | succ n =>
      have ih2 := ih (i + 1)  n hd2 (Nat.lt_of_succ_lt_succ hn)
      simp only [vah, vjo, vl7, hlt, hz, decide_true, cond_true, and_self, if_true, hy, hw, hnn, Sum.elim_inl, Sum.elim_inr, ih2]
theorem wq4 {u0} {u2} {u3} {u4} {u5} {u6} {u7} {u8} {u9} (h0 : u6.length < 9223372036854775807) {K : (q38T ⊕ q38T) → Option Res}  : vah vjo Fuel (u0, (0 : Int), u2, u3, u4, u5, u6, u7, u8, u9) K = vl7 u0 u2 u3 u4 u5 u6 u7 u8 u9 u6  0 (Sum.elim (fun z => K (.inl (z.1, z.2, u2, u3, u4, u5, u6, u7, u8, u9))) (fun z => K (.inr (u0, z, u2, u3, u4, u5, u6, u7, u8, u9)))) :=
  wnv h0 u6 0  Fuel rfl (vaz h0)
def vgm (u0 : Bool) (u1 : Int) (u2 : Int) (u3 : Int) (u4 : Int) (u5 : (List van)) (u6 : (List vaj)) (u7 : Bool) (u8 : ByteArray) (k : Bool → Option Res) : Option Res :=
    vl7 u0 u1 u2 u3 u4 u5 u6 u7 u8 u5  0 (Sum.elim (fun z1 =>
      k z1.1) (fun _ =>
      bif (u2 == (3 : Int)) then
        vdg u4 (IntKind.wrap .i64 (u3 + (1 : Int))) (9999 : Int) (fun y3 =>
          bif (!y3) then
            k false
          else
            bif (u2 != (3 : Int)) then
              bif (u4 != (0 : Int)) then
                k false
              else
                vcr u0 u1 u2 u3 u4 u5 u6 u7 u8 (fun z4 =>
                  k z4)
            else
              vcr u0 u1 u2 u3 u4 u5 u6 u7 u8 (fun z5 =>
                k z5))
      else
        bif (u2 != (3 : Int)) then
          bif (u4 != (0 : Int)) then
            k false
          else
            vcr u0 u1 u2 u3 u4 u5 u6 u7 u8 (fun z6 =>
              k z6)
        else
          vcr u0 u1 u2 u3 u4 u5 u6 u7 u8 (fun z7 =>
            k z7)))
theorem vx8 {u0} {u1} {u2} {u3} {u4} {u5} {u6} {u7} {u8} (h0 : u5.length < 9223372036854775807) {K : q36T → Option Res} : vc2 (u0, u1, u2, u3, u4, u5, u6, u7, u8) K = vgm u0 u1 u2 u3 u4 u5 u6 u7 u8 (fun z => K (z, u1, u2, u3, u4, u5, u6, u7, u8)) := by
  simp only [vc2, vgm, vxt, (wq4 h0), Sum.elim_inl, Sum.elim_inr]
def wgy (a0 : dTxn) (k : Bool → Option Res) : Option Res :=
  vdg a0.1 (1 : Int) (9999 : Int) (fun y23 =>
    bif (!y23) then
      k false
    else
      vdg a0.2.1 (1 : Int) (3 : Int) (fun y24 =>
        bif (!y24) then
          k false
        else
          vdg a0.2.2.1 (0 : Int) (9999 : Int) (fun y25 =>
            bif (!y25) then
              k false
            else
              bif (decide ((a0.2.2.2.2.1.length : Int) > (8 : Int))) then
                k false
              else
                vtx a0.2.2.2.2.2.1 (fun y26 =>
                  bif (!y26) then
                    k false
                  else
                    vgm false a0.1 a0.2.1 a0.2.2.1 a0.2.2.2.1 a0.2.2.2.2.1 a0.2.2.2.2.2.1 a0.2.2.2.2.2.2.1 a0.2.2.2.2.2.2.2 (fun z27 =>
                      k z27)))))
theorem wz2 {a0 : dTxn} (h0 : a0.2.2.2.2.1.length < 9223372036854775807) {k : Bool → Option Res} : vlh a0 k = wgy a0 k := by
  rw [whe]
  simp only [wdk, wgy, (vx8 h0), Sum.elim_inl, Sum.elim_inr]
def vl9 (u0 : Bool) (u2 : (List vac)) (u3 : (List dTxn)) (u4 : (List dTxn)) (u5 : Int) (u6 : Int) : List vac → Nat → (((Bool × Int) ⊕ Int) → Option Res) → Option Res
  | [], i, k =>
    k (.inr (i : Int))
  | y :: l, i, k =>
    bif (decide (y.2.2.2 > u5)) then
      k (.inl (false, (i : Int)))
    else
      vl9 u0 u2 u3 u4 u5 u6 l (i + 1) k
theorem wsg {u0} {u2} {u3} {u4} {u5} {u6} (h0 : u2.length < 9223372036854775807) {K : (q30T ⊕ q30T) → Option Res} : ∀ (l : List vac) (i : Nat)  (n : Nat), u2.drop i = l → l.length < n → vah vk0 n (u0, (i : Int), u2, u3, u4, u5, u6) K = vl9 u0 u2 u3 u4 u5 u6 l  i (Sum.elim (fun z => K (.inl (z.1, z.2, u2, u3, u4, u5, u6))) (fun z => K (.inr (u0, z, u2, u3, u4, u5, u6)))) := by
  intro l
  induction l with
  | nil =>
    intro i  n hd hn
    have hge := va6 hd
    cases n with
    | zero => exact absurd hn (Nat.not_lt_zero _)
    | succ n => simp only [vah, vk0, vl9, hge, decide_false, cond_false, Sum.elim_inr, Sum.elim_inl]
  | cons y l ih =>
    intro i  n hd hn
    obtain ⟨hlt, hz, hd2, hw, hnn⟩ := vay hd h0
    have hy := vaw hd
    cases n with
    | zero => exact absurd hn (Nat.not_lt_zero _)
    | succ n =>
      have ih2 := ih (i + 1)  n hd2 (Nat.lt_of_succ_lt_succ hn)
      simp only [vah, vk0, vl9, hlt, hz, decide_true, cond_true, and_self, if_true, hy, hw, hnn, Sum.elim_inl, Sum.elim_inr, ih2]
theorem wnt {u0} {u2} {u3} {u4} {u5} {u6} (h0 : u2.length < 9223372036854775807) {K : (q30T ⊕ q30T) → Option Res}  : vah vk0 Fuel (u0, (0 : Int), u2, u3, u4, u5, u6) K = vl9 u0 u2 u3 u4 u5 u6 u2  0 (Sum.elim (fun z => K (.inl (z.1, z.2, u2, u3, u4, u5, u6))) (fun z => K (.inr (u0, z, u2, u3, u4, u5, u6)))) :=
  wsg h0 u2 0  Fuel rfl (vaz h0)
def vik (u0 : Bool) (u2 : (List vac)) (u3 : (List dTxn)) (u4 : (List dTxn)) (u5 : Int) (u6 : Int) : List dTxn → (List Int) → Nat → (((Bool × Int × (List Int)) ⊕ (Int × (List Int))) → Option Res) → Option Res
  | [], s7, i, k =>
    k (.inr ((i : Int), s7))
  | y :: l, s7, i, k =>
    vlh y (fun y1 =>
      bif (!y1) then
        k (.inl (false, (i : Int), s7))
      else
        bif (y.2.1 != (3 : Int)) then
          k (.inl (false, (i : Int), s7))
        else
          bif (decide (y.2.2.2.1 > u5)) then
            k (.inl (false, (i : Int), s7))
          else
            bif (decide ((i : Int) > (0 : Int))) then
              if 0 ≤ (IntKind.wrap .i64 ((i : Int) - (1 : Int))) ∧ (IntKind.wrap .i64 ((i : Int) - (1 : Int))) < (u3.length : Int) then
                bif (decide ((rd (Ty.zero tTxn) u3 (IntKind.wrap .i64 ((i : Int) - (1 : Int)))).2.2.2.1 ≥ y.2.2.2.1)) then
                  k (.inl (false, (i : Int), s7))
                else
                  if s7.length + [y.1].length ≤ VE.maxLen then
                    vik u0 u2 u3 u4 u5 u6 l (s7 ++ [y.1]) (i + 1) k
                  else none
              else none
            else
              if s7.length + [y.1].length ≤ VE.maxLen then
                vik u0 u2 u3 u4 u5 u6 l (s7 ++ [y.1]) (i + 1) k
              else none)
theorem wq1 {u0} {u2} {u3} {u4} {u5} {u6} (h0 : u3.length < 9223372036854775807) {K : (q27T ⊕ q27T) → Option Res} : ∀ (l : List dTxn) (i : Nat) (s7 : (List Int)) (n : Nat), u3.drop i = l → l.length < n → vah vkl n (u0, (i : Int), u2, u3, u4, u5, u6, s7) K = vik u0 u2 u3 u4 u5 u6 l s7 i (Sum.elim (fun z => K (.inl (z.1, z.2.1, u2, u3, u4, u5, u6, z.2.2))) (fun z => K (.inr (u0, z.1, u2, u3, u4, u5, u6, z.2)))) := by
  intro l
  induction l with
  | nil =>
    intro i s7 n hd hn
    have hge := va6 hd
    cases n with
    | zero => exact absurd hn (Nat.not_lt_zero _)
    | succ n => simp only [vah, vkl, vik, hge, decide_false, cond_false, Sum.elim_inr, Sum.elim_inl]
  | cons y l ih =>
    intro i s7 n hd hn
    obtain ⟨hlt, hz, hd2, hw, hnn⟩ := vay hd h0
    have hy := vaw hd
    cases n with
    | zero => exact absurd hn (Nat.not_lt_zero _)
    | succ n =>
      have ih2 := fun (s7 : (List Int)) => ih (i + 1) s7 n hd2 (Nat.lt_of_succ_lt_succ hn)
      simp only [vah, vkl, vik, hlt, hz, decide_true, cond_true, and_self, if_true, hy, hw, hnn, Sum.elim_inl, Sum.elim_inr, ih2]
theorem wqk {u0} {u2} {u3} {u4} {u5} {u6} (h0 : u3.length < 9223372036854775807) {K : (q27T ⊕ q27T) → Option Res} {s7 : (List Int)} : vah vkl Fuel (u0, (0 : Int), u2, u3, u4, u5, u6, s7) K = vik u0 u2 u3 u4 u5 u6 u3 s7 0 (Sum.elim (fun z => K (.inl (z.1, z.2.1, u2, u3, u4, u5, u6, z.2.2))) (fun z => K (.inr (u0, z.1, u2, u3, u4, u5, u6, z.2)))) :=
  wq1 h0 u3 0 s7 Fuel rfl (vaz h0)
def viv (u0 : Bool) (u2 : (List vac)) (u3 : (List dTxn)) (u4 : (List dTxn)) (u5 : Int) (u6 : Int) : List dTxn → (List Int) → Nat → (((Bool × Int × (List Int)) ⊕ (Int × (List Int))) → Option Res) → Option Res
  | [], s7, i, k =>
    k (.inr ((i : Int), s7))
  | y :: l, s7, i, k =>
    vlh y (fun y1 =>
      bif (!y1) then
        k (.inl (false, (i : Int), s7))
      else
        bif (y.2.1 != (2 : Int)) then
          k (.inl (false, (i : Int), s7))
        else
          bif (decide (y.2.2.1 > u5)) then
            k (.inl (false, (i : Int), s7))
          else
            bif (decide ((i : Int) > (0 : Int))) then
              if 0 ≤ (IntKind.wrap .i64 ((i : Int) - (1 : Int))) ∧ (IntKind.wrap .i64 ((i : Int) - (1 : Int))) < (u4.length : Int) then
                bif (!(va2 ((rd (Ty.zero tTxn) u4 (IntKind.wrap .i64 ((i : Int) - (1 : Int)))).2.2.2.2.2.2.2) (y.2.2.2.2.2.2.2))) then
                  k (.inl (false, (i : Int), s7))
                else
                  if s7.length + [y.1].length ≤ VE.maxLen then
                    viv u0 u2 u3 u4 u5 u6 l (s7 ++ [y.1]) (i + 1) k
                  else none
              else none
            else
              if s7.length + [y.1].length ≤ VE.maxLen then
                viv u0 u2 u3 u4 u5 u6 l (s7 ++ [y.1]) (i + 1) k
              else none)
theorem wpf {u0} {u2} {u3} {u4} {u5} {u6} (h0 : u4.length < 9223372036854775807) {K : (q27T ⊕ q27T) → Option Res} : ∀ (l : List dTxn) (i : Nat) (s7 : (List Int)) (n : Nat), u4.drop i = l → l.length < n → vah vki n (u0, (i : Int), u2, u3, u4, u5, u6, s7) K = viv u0 u2 u3 u4 u5 u6 l s7 i (Sum.elim (fun z => K (.inl (z.1, z.2.1, u2, u3, u4, u5, u6, z.2.2))) (fun z => K (.inr (u0, z.1, u2, u3, u4, u5, u6, z.2)))) := by
  intro l
  induction l with
  | nil =>
    intro i s7 n hd hn
    have hge := va6 hd
    cases n with
    | zero => exact absurd hn (Nat.not_lt_zero _)
    | succ n => simp only [vah, vki, viv, hge, decide_false, cond_false, Sum.elim_inr, Sum.elim_inl]
  | cons y l ih =>
    intro i s7 n hd hn
    obtain ⟨hlt, hz, hd2, hw, hnn⟩ := vay hd h0
    have hy := vaw hd
    cases n with
    | zero => exact absurd hn (Nat.not_lt_zero _)
    | succ n =>
      have ih2 := fun (s7 : (List Int)) => ih (i + 1) s7 n hd2 (Nat.lt_of_succ_lt_succ hn)
      simp only [vah, vki, viv, hlt, hz, decide_true, cond_true, and_self, if_true, hy, hw, hnn, Sum.elim_inl, Sum.elim_inr, ih2]
theorem wo4 {u0} {u2} {u3} {u4} {u5} {u6} (h0 : u4.length < 9223372036854775807) {K : (q27T ⊕ q27T) → Option Res} {s7 : (List Int)} : vah vki Fuel (u0, (0 : Int), u2, u3, u4, u5, u6, s7) K = viv u0 u2 u3 u4 u5 u6 u4 s7 0 (Sum.elim (fun z => K (.inl (z.1, z.2.1, u2, u3, u4, u5, u6, z.2.2))) (fun z => K (.inr (u0, z.1, u2, u3, u4, u5, u6, z.2)))) :=
  wpf h0 u4 0 s7 Fuel rfl (vaz h0)
def vgi (u0 : Bool) (u1 : (List vac)) (u2 : (List dTxn)) (u3 : (List dTxn)) (u4 : Int) (u5 : Int) (k : q25T → Option Res) : Option Res :=
    vl9 u0 u1 u2 u3 u4 u5 u1  0 (Sum.elim (fun z1 =>
      k (z1.1, u1, u2, u3, u4, u5)) (fun _ =>
      vik u0 u1 u2 u3 u4 u5 u2 ([] : List Int) 0 (Sum.elim (fun z3 =>
        k (z3.1, u1, u2, u3, u4, u5)) (fun z4 =>
        viv u0 u1 u2 u3 u4 u5 u3 z4.2 0 (Sum.elim (fun z5 =>
          k (z5.1, u1, u2, u3, u4, u5)) (fun z6 =>
          vah vj9 Fuel (u0, (0 : Int), u1, u2, u3, u4, u5, z6.2) (Sum.elim (fun z7 =>
            k (true, z7.2.2.1, z7.2.2.2.1, z7.2.2.2.2.1, z7.2.2.2.2.2.1, z7.2.2.2.2.2.2.1)) (fun z8 =>
            k (z8.1, z8.2.2.1, z8.2.2.2.1, z8.2.2.2.2.1, z8.2.2.2.2.2.1, z8.2.2.2.2.2.2.1)))))))))
theorem vyk {u0} {u1} {u2} {u3} {u4} {u5} (h0 : u3.length < 9223372036854775807) (h1 : u2.length < 9223372036854775807) (h2 : u1.length < 9223372036854775807) {K : q25T → Option Res} : vc0 (u0, u1, u2, u3, u4, u5) K = vgi u0 u1 u2 u3 u4 u5 (fun z => K (z.1, z.2.1, z.2.2.1, z.2.2.2.1, z.2.2.2.2.1, z.2.2.2.2.2)) := by
  simp only [vc0, vgi, (wo4 h0), (wqk h1), (wnt h2), Sum.elim_inl, Sum.elim_inr]
def wkp (a0 : vha) (k : Bool → Option Res) : Option Res :=
  vty a0.1 (fun y23 =>
    bif (!y23) then
      k false
    else
      bif (decide ((a0.2.1.length : Int) > (12 : Int))) then
        k false
      else
        bif (decide ((a0.2.2.1.length : Int) > (3 : Int))) then
          k false
        else
          vdg a0.2.2.2.1 (0 : Int) (9999 : Int) (fun y24 =>
            bif (!y24) then
              k false
            else
              vdg a0.2.2.2.2 (1 : Int) (9999 : Int) (fun y25 =>
                bif (!y25) then
                  k false
                else
                  vgi false a0.1 a0.2.1 a0.2.2.1 a0.2.2.2.1 a0.2.2.2.2 (fun z26 =>
                    k z26.1))))
theorem wxo {a0 : vha} (h0 : a0.2.2.1.length < 9223372036854775807) (h1 : a0.2.1.length < 9223372036854775807) (h2 : a0.1.length < 9223372036854775807) {k : Bool → Option Res} : vtn a0 k = wkp a0 k := by
  rw [wgv]
  simp only [wd1, wkp, (vyk h0 h1 h2), Sum.elim_inl, Sum.elim_inr]
def vl8 (u0 : Bool) (u1 : Int) (u3 : (List vac)) (u4 : (List dTxn)) (u5 : (List dTxn)) (u6 : Int) (u7 : Int) (u8 : (List dTxn)) (u9 : Int) (u10 : Int) (u11 : Int) (u12 : Int) (u13 : (List van)) (u14 : (List vaj)) (u15 : Bool) (u16 : ByteArray) : List dTxn → Nat → (((Bool × Int) ⊕ Int) → Option Res) → Option Res
  | [], i, k =>
    k (.inr (i : Int))
  | y :: l, i, k =>
    bif (y.1 == u9) then
      k (.inl (false, (i : Int)))
    else
      vl8 u0 u1 u3 u4 u5 u6 u7 u8 u9 u10 u11 u12 u13 u14 u15 u16 l (i + 1) k
theorem wqv {u0} {u1} {u3} {u4} {u5} {u6} {u7} {u8} {u9} {u10} {u11} {u12} {u13} {u14} {u15} {u16} (h0 : u4.length < 9223372036854775807) {K : (q33T ⊕ q33T) → Option Res} : ∀ (l : List dTxn) (i : Nat)  (n : Nat), u4.drop i = l → l.length < n → vah vj1 n (u0, u1, (i : Int), u3, u4, u5, u6, u7, u8, u9, u10, u11, u12, u13, u14, u15, u16) K = vl8 u0 u1 u3 u4 u5 u6 u7 u8 u9 u10 u11 u12 u13 u14 u15 u16 l  i (Sum.elim (fun z => K (.inl (z.1, u1, z.2, u3, u4, u5, u6, u7, u8, u9, u10, u11, u12, u13, u14, u15, u16))) (fun z => K (.inr (u0, u1, z, u3, u4, u5, u6, u7, u8, u9, u10, u11, u12, u13, u14, u15, u16)))) := by
  intro l
  induction l with
  | nil =>
    intro i  n hd hn
    have hge := va6 hd
    cases n with
    | zero => exact absurd hn (Nat.not_lt_zero _)
    | succ n => simp only [vah, vj1, vl8, hge, decide_false, cond_false, Sum.elim_inr, Sum.elim_inl]
  | cons y l ih =>
    intro i  n hd hn
    obtain ⟨hlt, hz, hd2, hw, hnn⟩ := vay hd h0
    have hy := vaw hd
    cases n with
    | zero => exact absurd hn (Nat.not_lt_zero _)
    | succ n =>
      have ih2 := ih (i + 1)  n hd2 (Nat.lt_of_succ_lt_succ hn)
      simp only [vah, vj1, vl8, hlt, hz, decide_true, cond_true, and_self, if_true, hy, hw, hnn, Sum.elim_inl, Sum.elim_inr, ih2]
theorem wqc {u0} {u1} {u3} {u4} {u5} {u6} {u7} {u8} {u9} {u10} {u11} {u12} {u13} {u14} {u15} {u16} (h0 : u4.length < 9223372036854775807) {K : (q33T ⊕ q33T) → Option Res}  : vah vj1 Fuel (u0, u1, (0 : Int), u3, u4, u5, u6, u7, u8, u9, u10, u11, u12, u13, u14, u15, u16) K = vl8 u0 u1 u3 u4 u5 u6 u7 u8 u9 u10 u11 u12 u13 u14 u15 u16 u4  0 (Sum.elim (fun z => K (.inl (z.1, u1, z.2, u3, u4, u5, u6, u7, u8, u9, u10, u11, u12, u13, u14, u15, u16))) (fun z => K (.inr (u0, u1, z, u3, u4, u5, u6, u7, u8, u9, u10, u11, u12, u13, u14, u15, u16)))) :=
  wqv h0 u4 0  Fuel rfl (vaz h0)
def vmr (u0 : Bool) (u1 : Int) (u3 : (List vac)) (u4 : (List dTxn)) (u5 : (List dTxn)) (u6 : Int) (u7 : Int) (u8 : (List dTxn)) (u9 : Int) (u10 : Int) (u11 : Int) (u12 : Int) (u13 : (List van)) (u14 : (List vaj)) (u15 : Bool) (u16 : ByteArray) : List dTxn → Nat → (((Bool × Int) ⊕ Int) → Option Res) → Option Res
  | [], i, k =>
    k (.inr (i : Int))
  | y :: l, i, k =>
    bif (y.1 == u9) then
      k (.inl (false, (i : Int)))
    else
      vmr u0 u1 u3 u4 u5 u6 u7 u8 u9 u10 u11 u12 u13 u14 u15 u16 l (i + 1) k
theorem wnd {u0} {u1} {u3} {u4} {u5} {u6} {u7} {u8} {u9} {u10} {u11} {u12} {u13} {u14} {u15} {u16} (h0 : u5.length < 9223372036854775807) {K : (q33T ⊕ q33T) → Option Res} : ∀ (l : List dTxn) (i : Nat)  (n : Nat), u5.drop i = l → l.length < n → vah vjk n (u0, u1, (i : Int), u3, u4, u5, u6, u7, u8, u9, u10, u11, u12, u13, u14, u15, u16) K = vmr u0 u1 u3 u4 u5 u6 u7 u8 u9 u10 u11 u12 u13 u14 u15 u16 l  i (Sum.elim (fun z => K (.inl (z.1, u1, z.2, u3, u4, u5, u6, u7, u8, u9, u10, u11, u12, u13, u14, u15, u16))) (fun z => K (.inr (u0, u1, z, u3, u4, u5, u6, u7, u8, u9, u10, u11, u12, u13, u14, u15, u16)))) := by
  intro l
  induction l with
  | nil =>
    intro i  n hd hn
    have hge := va6 hd
    cases n with
    | zero => exact absurd hn (Nat.not_lt_zero _)
    | succ n => simp only [vah, vjk, vmr, hge, decide_false, cond_false, Sum.elim_inr, Sum.elim_inl]
  | cons y l ih =>
    intro i  n hd hn
    obtain ⟨hlt, hz, hd2, hw, hnn⟩ := vay hd h0
    have hy := vaw hd
    cases n with
    | zero => exact absurd hn (Nat.not_lt_zero _)
    | succ n =>
      have ih2 := ih (i + 1)  n hd2 (Nat.lt_of_succ_lt_succ hn)
      simp only [vah, vjk, vmr, hlt, hz, decide_true, cond_true, and_self, if_true, hy, hw, hnn, Sum.elim_inl, Sum.elim_inr, ih2]
theorem woa {u0} {u1} {u3} {u4} {u5} {u6} {u7} {u8} {u9} {u10} {u11} {u12} {u13} {u14} {u15} {u16} (h0 : u5.length < 9223372036854775807) {K : (q33T ⊕ q33T) → Option Res}  : vah vjk Fuel (u0, u1, (0 : Int), u3, u4, u5, u6, u7, u8, u9, u10, u11, u12, u13, u14, u15, u16) K = vmr u0 u1 u3 u4 u5 u6 u7 u8 u9 u10 u11 u12 u13 u14 u15 u16 u5  0 (Sum.elim (fun z => K (.inl (z.1, u1, z.2, u3, u4, u5, u6, u7, u8, u9, u10, u11, u12, u13, u14, u15, u16))) (fun z => K (.inr (u0, u1, z, u3, u4, u5, u6, u7, u8, u9, u10, u11, u12, u13, u14, u15, u16)))) :=
  wnd h0 u5 0  Fuel rfl (vaz h0)
def vc8 (u0 : Bool) (u1 : Int) (u2 : (List vac)) (u3 : (List dTxn)) (u4 : (List dTxn)) (u5 : Int) (u6 : Int) (u7 : (List dTxn)) (u8 : Int) (u9 : Int) (u10 : Int) (u11 : Int) (u12 : (List van)) (u13 : (List vaj)) (u14 : Bool) (u15 : ByteArray) (k : (Bool ⊕ Unit) → Option Res) : Option Res :=
    vl8 u0 u1 u2 u3 u4 u5 u6 u7 u8 u9 u10 u11 u12 u13 u14 u15 u3  0 (Sum.elim (fun z1 =>
      k (.inl z1.1)) (fun _ =>
      vmr u0 u1 u2 u3 u4 u5 u6 u7 u8 u9 u10 u11 u12 u13 u14 u15 u4  0 (Sum.elim (fun z3 =>
        k (.inl z3.1)) (fun _ =>
        k (.inr ())))))
theorem voy {u0} {u1} {u2} {u3} {u4} {u5} {u6} {u7} {u8} {u9} {u10} {u11} {u12} {u13} {u14} {u15} (h0 : u4.length < 9223372036854775807) (h1 : u3.length < 9223372036854775807) {K : (q28T ⊕ q28T) → Option Res} : vcm (u0, u1, u2, u3, u4, u5, u6, u7, u8, u9, u10, u11, u12, u13, u14, u15) K = vc8 u0 u1 u2 u3 u4 u5 u6 u7 u8 u9 u10 u11 u12 u13 u14 u15 (Sum.elim (fun z => K (.inl (z, u1, u2, u3, u4, u5, u6, u7, u8, u9, u10, u11, u12, u13, u14, u15))) (fun _ => K (.inr (u0, u1, u2, u3, u4, u5, u6, u7, u8, u9, u10, u11, u12, u13, u14, u15)))) := by
  simp only [vcm, vc8, (woa h0), (wqc h1), Sum.elim_inl, Sum.elim_inr]
def vka (u0 : Bool) (u2 : (List vac)) (u3 : (List dTxn)) (u4 : (List dTxn)) (u5 : Int) (u6 : Int) (u7 : (List dTxn)) : List dTxn → Nat → (((Bool × Int) ⊕ Int) → Option Res) → Option Res
  | [], i, k =>
    k (.inr (i : Int))
  | y :: l, i, k =>
    vlh y (fun y1 =>
      bif (!y1) then
        k (.inl (false, (i : Int)))
      else
        bif (y.2.1 != (1 : Int)) then
          k (.inl (false, (i : Int)))
        else
          bif (decide (y.1 ≥ u6)) then
            k (.inl (false, (i : Int)))
          else
            bif (decide (y.2.2.1 > u5)) then
              k (.inl (false, (i : Int)))
            else
              bif (decide ((i : Int) > (0 : Int))) then
                if 0 ≤ (IntKind.wrap .i64 ((i : Int) - (1 : Int))) ∧ (IntKind.wrap .i64 ((i : Int) - (1 : Int))) < (u7.length : Int) then
                  bif (decide ((rd (Ty.zero tTxn) u7 (IntKind.wrap .i64 ((i : Int) - (1 : Int)))).1 ≥ y.1)) then
                    k (.inl (false, (i : Int)))
                  else
                    vc8 u0 (i : Int) u2 u3 u4 u5 u6 u7 y.1 y.2.1 y.2.2.1 y.2.2.2.1 y.2.2.2.2.1 y.2.2.2.2.2.1 y.2.2.2.2.2.2.1 y.2.2.2.2.2.2.2 (Sum.elim (fun z2 =>
                      k (.inl (z2, (i : Int)))) (fun _ =>
                      vka u0 u2 u3 u4 u5 u6 u7 l (i + 1) k))
                else none
              else
                vc8 u0 (i : Int) u2 u3 u4 u5 u6 u7 y.1 y.2.1 y.2.2.1 y.2.2.2.1 y.2.2.2.2.1 y.2.2.2.2.2.1 y.2.2.2.2.2.2.1 y.2.2.2.2.2.2.2 (Sum.elim (fun z4 =>
                  k (.inl (z4, (i : Int)))) (fun _ =>
                  vka u0 u2 u3 u4 u5 u6 u7 l (i + 1) k)))
theorem woo {u0} {u2} {u3} {u4} {u5} {u6} {u7} (h0 : u7.length < 9223372036854775807) (h1 : u4.length < 9223372036854775807) (h2 : u3.length < 9223372036854775807) {K : (q29T ⊕ q29T) → Option Res} : ∀ (l : List dTxn) (i : Nat)  (n : Nat), u7.drop i = l → l.length < n → vah vk8 n (u0, (i : Int), u2, u3, u4, u5, u6, u7) K = vka u0 u2 u3 u4 u5 u6 u7 l  i (Sum.elim (fun z => K (.inl (z.1, z.2, u2, u3, u4, u5, u6, u7))) (fun z => K (.inr (u0, z, u2, u3, u4, u5, u6, u7)))) := by
  intro l
  induction l with
  | nil =>
    intro i  n hd hn
    have hge := va6 hd
    cases n with
    | zero => exact absurd hn (Nat.not_lt_zero _)
    | succ n => simp only [vah, vk8, vka, hge, decide_false, cond_false, Sum.elim_inr, Sum.elim_inl, (voy h1 h2)]
  | cons y l ih =>
    intro i  n hd hn
    obtain ⟨hlt, hz, hd2, hw, hnn⟩ := vay hd h0
    have hy := vaw hd
    cases n with
    | zero => exact absurd hn (Nat.not_lt_zero _)
    | succ n =>
      have ih2 := ih (i + 1)  n hd2 (Nat.lt_of_succ_lt_succ hn)
      simp only [vah, vk8, vka, hlt, hz, decide_true, cond_true, and_self, if_true, hy, hw, hnn, Sum.elim_inl, Sum.elim_inr, ih2, (voy h1 h2)]
theorem woj {u0} {u2} {u3} {u4} {u5} {u6} {u7} (h0 : u7.length < 9223372036854775807) (h1 : u4.length < 9223372036854775807) (h2 : u3.length < 9223372036854775807) {K : (q29T ⊕ q29T) → Option Res}  : vah vk8 Fuel (u0, (0 : Int), u2, u3, u4, u5, u6, u7) K = vka u0 u2 u3 u4 u5 u6 u7 u7  0 (Sum.elim (fun z => K (.inl (z.1, z.2, u2, u3, u4, u5, u6, u7))) (fun z => K (.inr (u0, z, u2, u3, u4, u5, u6, u7)))) :=
  woo h0 h1 h2 u7 0  Fuel rfl (vaz h0)
def vgd (u0 : Bool) (u1 : (List vac)) (u2 : (List dTxn)) (u3 : (List dTxn)) (u4 : Int) (u5 : Int) (u6 : (List dTxn)) (k : Bool → Option Res) : Option Res :=
    vka u0 u1 u2 u3 u4 u5 u6 u6  0 (Sum.elim (fun z1 =>
      k z1.1) (fun _ =>
      k true))
theorem vx4 {u0} {u1} {u2} {u3} {u4} {u5} {u6} (h0 : u6.length < 9223372036854775807) (h1 : u3.length < 9223372036854775807) (h2 : u2.length < 9223372036854775807) {K : q24T → Option Res} : vc5 (u0, u1, u2, u3, u4, u5, u6) K = vgd u0 u1 u2 u3 u4 u5 u6 (fun z => K (z, u1, u2, u3, u4, u5, u6)) := by
  simp only [vc5, vgd, (woj h0 h1 h2), Sum.elim_inl, Sum.elim_inr]
def wgl (a0 : va7) (k : Bool → Option Res) : Option Res :=
  vtn a0.1 (fun y23 =>
    bif (!y23) then
      k false
    else
      bif (decide ((a0.2.length : Int) > (4 : Int))) then
        k false
      else
        vgd false a0.1.1 a0.1.2.1 a0.1.2.2.1 a0.1.2.2.2.1 a0.1.2.2.2.2 a0.2 (fun z24 =>
          k z24))
theorem wx5 {a0 : va7} (h0 : a0.2.length < 9223372036854775807) (h1 : a0.1.2.2.1.length < 9223372036854775807) (h2 : a0.1.2.1.length < 9223372036854775807) {k : Bool → Option Res} : vwx a0 k = wgl a0 k := by
  rw [whk]
  simp only [wc7, wgl, (vx4 h0 h1 h2), Sum.elim_inl, Sum.elim_inr]
def vkj (u0 : (List dTxn)) : List dTxn → (List dTxn) → Nat → ((Int × (List dTxn)) → Option Res) → Option Res
  | [], s3, i, k =>
    k ((i : Int), s3)
  | y :: l, s3, i, k =>
    vu8 y (fun y1 =>
      if s3.length + [(y1.1, (y1.2.1, (y1.2.2.1, (y1.2.2.2.1, (y1.2.2.2.2.2.2.1, (y1.2.2.2.2.2.2.2, (y1.2.2.2.2.1, y1.2.2.2.2.2.1)))))))].length ≤ VE.maxLen then
        vkj u0 l (s3 ++ [(y1.1, (y1.2.1, (y1.2.2.1, (y1.2.2.2.1, (y1.2.2.2.2.2.2.1, (y1.2.2.2.2.2.2.2, (y1.2.2.2.2.1, y1.2.2.2.2.2.1)))))))]) (i + 1) k
      else none)
theorem wqr {u0} (h0 : u0.length < 9223372036854775807) {K : q8T → Option Res} : ∀ (l : List dTxn) (i : Nat) (s3 : (List dTxn)) (n : Nat), u0.drop i = l → l.length < n → vah vlc n (u0, (u0.length : Int), (i : Int), s3) K = vkj u0 l s3 i (fun z => K (u0, (u0.length : Int), z.1, z.2)) := by
  intro l
  induction l with
  | nil =>
    intro i s3 n hd hn
    have hge := va6 hd
    cases n with
    | zero => exact absurd hn (Nat.not_lt_zero _)
    | succ n => simp only [vah, vlc, vkj, hge, decide_false, cond_false, Sum.elim_inr, Sum.elim_inl]
  | cons y l ih =>
    intro i s3 n hd hn
    obtain ⟨hlt, hz, hd2, hw, hnn⟩ := vay hd h0
    have hy := vaw hd
    cases n with
    | zero => exact absurd hn (Nat.not_lt_zero _)
    | succ n =>
      have ih2 := fun (s3 : (List dTxn)) => ih (i + 1) s3 n hd2 (Nat.lt_of_succ_lt_succ hn)
      simp only [vah, vlc, vkj, hlt, hz, decide_true, cond_true, and_self, if_true, hy, hw, hnn, Sum.elim_inl, Sum.elim_inr, ih2]
theorem wse {u0} (h0 : u0.length < 9223372036854775807) {K : q8T → Option Res} {s3 : (List dTxn)} : vah vlc Fuel (u0, (u0.length : Int), (0 : Int), s3) K = vkj u0 u0 s3 0 (fun z => K (u0, (u0.length : Int), z.1, z.2)) :=
  wqr h0 u0 0 s3 Fuel rfl (vaz h0)
def wgt (a0 : (List dTxn)) (k : (List dTxn) → Option Res) : Option Res :=
  vkj a0 a0 ([] : List dTxn) 0 (fun z23 =>
    k z23.2)
theorem wv4 {a0 : (List dTxn)} (h0 : a0.length < 9223372036854775807) {k : (List dTxn) → Option Res} : vq8 a0 k = wgt a0 k := by
  rw [wlj]
  simp only [wbc, wgt, (wse h0), Sum.elim_inl, Sum.elim_inr]
def vlp (u0 : ByteArray) (u1 : Bool) : List Int → Nat → (((Bool × Int) ⊕ Int) → Option Res) → Option Res
  | [], i, k =>
    k (.inr (i : Int))
  | y :: l, i, k =>
    bif (decide (y < (97 : Int))) then
      k (.inl (false, (i : Int)))
    else
      bif (decide (y > (122 : Int))) then
        k (.inl (false, (i : Int)))
      else
        vlp u0 u1 l (i + 1) k
theorem wpo {u0} {u1} (h0 : u0.size < 9223372036854775807) {K : ((ByteArray × Bool × Int) ⊕ (ByteArray × Bool × Int)) → Option Res} : ∀ (l : List Int) (i : Nat)  (n : Nat), (vcs u0).drop i = l → l.length < n → vah vko n (u0, u1, (i : Int)) K = vlp u0 u1 l  i (Sum.elim (fun z => K (.inl (u0, z.1, z.2))) (fun z => K (.inr (u0, u1, z)))) := by
  intro l
  induction l with
  | nil =>
    intro i  n hd hn
    have hge := wj4 hd
    cases n with
    | zero => exact absurd hn (Nat.not_lt_zero _)
    | succ n => simp only [vah, vko, vlp, hge, decide_false, cond_false, Sum.elim_inr, Sum.elim_inl]
  | cons y l ih =>
    intro i  n hd hn
    obtain ⟨hlt, hz, hd2, hw, hnn⟩ := wb2 hd h0
    have hy := wic hd
    cases n with
    | zero => exact absurd hn (Nat.not_lt_zero _)
    | succ n =>
      have ih2 := ih (i + 1)  n hd2 (Nat.lt_of_succ_lt_succ hn)
      simp only [vah, vko, vlp, hlt, hz, decide_true, cond_true, and_self, if_true, hy, hw, hnn, Sum.elim_inl, Sum.elim_inr, ih2]
theorem woc {u0} {u1} (h0 : u0.size < 9223372036854775807) {K : ((ByteArray × Bool × Int) ⊕ (ByteArray × Bool × Int)) → Option Res}  : vah vko Fuel (u0, u1, (0 : Int)) K = vlp u0 u1 (vcs u0)  0 (Sum.elim (fun z => K (.inl (u0, z.1, z.2))) (fun z => K (.inr (u0, u1, z)))) :=
  wpo h0 (vcs u0) 0  Fuel rfl (wct h0)
def wlc (a0 : ByteArray) (k : Bool → Option Res) : Option Res :=
  vlp a0 false (vcs a0)  0 (Sum.elim (fun z23 =>
    k z23.1) (fun _ =>
    vde (a0.size : Int) (1 : Int) (3 : Int) (fun y25 =>
      k y25)))
theorem w02 {a0 : ByteArray} (h0 : a0.size < 9223372036854775807) {k : Bool → Option Res} : vi2 a0 k = wlc a0 k := by
  rw [wgb]
  simp only [wap, wlc, (woc h0), Sum.elim_inl, Sum.elim_inr]
def vhw (u0 : (List vac)) (u1 : Bool) (u2 : (List vac)) : List vac → Nat → (((Bool × Int) ⊕ Int) → Option Res) → Option Res
  | [], i, k =>
    k (.inr (i : Int))
  | y :: l, i, k =>
    vi2 y.1 (fun y1 =>
      bif (!y1) then
        k (.inl (false, (i : Int)))
      else
        bif (decide ((y.2.1.size : Int) > (12 : Int))) then
          k (.inl (false, (i : Int)))
        else
          bif y.2.2.1 then
            bif (!(vbd (y.2.1) (⟨#[]⟩ : ByteArray))) then
              k (.inl (false, (i : Int)))
            else
              vde y.2.2.2 (1 : Int) (9999 : Int) (fun y2 =>
                bif (!y2) then
                  k (.inl (false, (i : Int)))
                else
                  bif (decide ((i : Int) > (0 : Int))) then
                    if 0 ≤ (IntKind.wrap .i64 ((i : Int) - (1 : Int))) ∧ (IntKind.wrap .i64 ((i : Int) - (1 : Int))) < (u0.length : Int) then
                      vqu (rd (Ty.zero tVersion) u0 (IntKind.wrap .i64 ((i : Int) - (1 : Int)))) y (fun y3 =>
                        bif (decide (y3 ≥ (0 : Int))) then
                          k (.inl (false, (i : Int)))
                        else
                          vhw u0 u1 u2 l (i + 1) k)
                    else none
                  else
                    vhw u0 u1 u2 l (i + 1) k)
          else
            vde y.2.2.2 (1 : Int) (9999 : Int) (fun y4 =>
              bif (!y4) then
                k (.inl (false, (i : Int)))
              else
                bif (decide ((i : Int) > (0 : Int))) then
                  if 0 ≤ (IntKind.wrap .i64 ((i : Int) - (1 : Int))) ∧ (IntKind.wrap .i64 ((i : Int) - (1 : Int))) < (u0.length : Int) then
                    vqu (rd (Ty.zero tVersion) u0 (IntKind.wrap .i64 ((i : Int) - (1 : Int)))) y (fun y5 =>
                      bif (decide (y5 ≥ (0 : Int))) then
                        k (.inl (false, (i : Int)))
                      else
                        vhw u0 u1 u2 l (i + 1) k)
                  else none
                else
                  vhw u0 u1 u2 l (i + 1) k))
theorem wpw {u0} {u1} {u2} (h0 : u2.length < 9223372036854775807) {K : (q12T ⊕ q12T) → Option Res} : ∀ (l : List vac) (i : Nat)  (n : Nat), u2.drop i = l → l.length < n → vah vj2 n (u0, u1, u2, (u2.length : Int), (i : Int)) K = vhw u0 u1 u2 l  i (Sum.elim (fun z => K (.inl (u0, z.1, u2, (u2.length : Int), z.2))) (fun z => K (.inr (u0, u1, u2, (u2.length : Int), z)))) := by
  intro l
  induction l with
  | nil =>
    intro i  n hd hn
    have hge := va6 hd
    cases n with
    | zero => exact absurd hn (Nat.not_lt_zero _)
    | succ n => simp only [vah, vj2, vhw, hge, decide_false, cond_false, Sum.elim_inr, Sum.elim_inl]
  | cons y l ih =>
    intro i  n hd hn
    obtain ⟨hlt, hz, hd2, hw, hnn⟩ := vay hd h0
    have hy := vaw hd
    cases n with
    | zero => exact absurd hn (Nat.not_lt_zero _)
    | succ n =>
      have ih2 := ih (i + 1)  n hd2 (Nat.lt_of_succ_lt_succ hn)
      simp only [vah, vj2, vhw, hlt, hz, decide_true, cond_true, and_self, if_true, hy, hw, hnn, Sum.elim_inl, Sum.elim_inr, ih2]
theorem woy {u0} {u1} {u2} (h0 : u2.length < 9223372036854775807) {K : (q12T ⊕ q12T) → Option Res}  : vah vj2 Fuel (u0, u1, u2, (u2.length : Int), (0 : Int)) K = vhw u0 u1 u2 u2  0 (Sum.elim (fun z => K (.inl (u0, z.1, u2, (u2.length : Int), z.2))) (fun z => K (.inr (u0, u1, u2, (u2.length : Int), z)))) :=
  wpw h0 u2 0  Fuel rfl (vaz h0)
def wk1 (a0 : (List vac)) (k : Bool → Option Res) : Option Res :=
  vhw a0 false a0 a0  0 (Sum.elim (fun z23 =>
    k z23.1) (fun _ =>
    k (decide ((a0.length : Int) ≤ (120 : Int)))))
theorem wz9 {a0 : (List vac)} (h0 : a0.length < 9223372036854775807) {k : Bool → Option Res} : vtf a0 k = wk1 a0 k := by
  rw [wgk]
  simp only [wbk, wk1, (woy h0), Sum.elim_inl, Sum.elim_inr]
def vj5 (u0 : (List vaj)) (u1 : Bool) (u2 : (List vaj)) : List vaj → Nat → (((Bool × Int) ⊕ Int) → Option Res) → Option Res
  | [], i, k =>
    k (.inr (i : Int))
  | y :: l, i, k =>
    vwo y (fun y1 =>
      bif (!y1) then
        k (.inl (false, (i : Int)))
      else
        bif (decide ((i : Int) > (0 : Int))) then
          if 0 ≤ (IntKind.wrap .i64 ((i : Int) - (1 : Int))) ∧ (IntKind.wrap .i64 ((i : Int) - (1 : Int))) < (u0.length : Int) then
            bif (!(va2 ((rd (Ty.zero tWrite) u0 (IntKind.wrap .i64 ((i : Int) - (1 : Int)))).1) (y.1))) then
              k (.inl (false, (i : Int)))
            else
              vj5 u0 u1 u2 l (i + 1) k
          else none
        else
          vj5 u0 u1 u2 l (i + 1) k)
theorem wqj {u0} {u1} {u2} (h0 : u2.length < 9223372036854775807) {K : (q17T ⊕ q17T) → Option Res} : ∀ (l : List vaj) (i : Nat)  (n : Nat), u2.drop i = l → l.length < n → vah vjp n (u0, u1, u2, (u2.length : Int), (i : Int)) K = vj5 u0 u1 u2 l  i (Sum.elim (fun z => K (.inl (u0, z.1, u2, (u2.length : Int), z.2))) (fun z => K (.inr (u0, u1, u2, (u2.length : Int), z)))) := by
  intro l
  induction l with
  | nil =>
    intro i  n hd hn
    have hge := va6 hd
    cases n with
    | zero => exact absurd hn (Nat.not_lt_zero _)
    | succ n => simp only [vah, vjp, vj5, hge, decide_false, cond_false, Sum.elim_inr, Sum.elim_inl]
  | cons y l ih =>
    intro i  n hd hn
    obtain ⟨hlt, hz, hd2, hw, hnn⟩ := vay hd h0
    have hy := vaw hd
    cases n with
    | zero => exact absurd hn (Nat.not_lt_zero _)
    | succ n =>
      have ih2 := ih (i + 1)  n hd2 (Nat.lt_of_succ_lt_succ hn)
      simp only [vah, vjp, vj5, hlt, hz, decide_true, cond_true, and_self, if_true, hy, hw, hnn, Sum.elim_inl, Sum.elim_inr, ih2]
theorem wny {u0} {u1} {u2} (h0 : u2.length < 9223372036854775807) {K : (q17T ⊕ q17T) → Option Res}  : vah vjp Fuel (u0, u1, u2, (u2.length : Int), (0 : Int)) K = vj5 u0 u1 u2 u2  0 (Sum.elim (fun z => K (.inl (u0, z.1, u2, (u2.length : Int), z.2))) (fun z => K (.inr (u0, u1, u2, (u2.length : Int), z)))) :=
  wqj h0 u2 0  Fuel rfl (vaz h0)
def wkr (a0 : (List vaj)) (k : Bool → Option Res) : Option Res :=
  vj5 a0 false a0 a0  0 (Sum.elim (fun z23 =>
    k z23.1) (fun _ =>
    k (decide ((a0.length : Int) ≤ (8 : Int)))))
theorem w0c {a0 : (List vaj)} (h0 : a0.length < 9223372036854775807) {k : Bool → Option Res} : vtt a0 k = wkr a0 k := by
  rw [wli]
  simp only [wcx, wkr, (wny h0), Sum.elim_inl, Sum.elim_inr]
def vcn (u0 : Bool) (u1 : Int) (u2 : Int) (u3 : Int) (u4 : Int) (u5 : (List van)) (u6 : (List vaj)) (u7 : Bool) (u8 : ByteArray) (k : Bool → Option Res) : Option Res :=
    bif (u2 == (2 : Int)) then
      vi2 u8 (fun y1 =>
        bif y1 then
          k true
        else
          bif (u2 != (2 : Int)) then
            k (vbd u8 (⟨#[]⟩ : ByteArray))
          else
            k false)
    else
      bif (u2 != (2 : Int)) then
        k (vbd u8 (⟨#[]⟩ : ByteArray))
      else
        k false
theorem vyb {u0} {u1} {u2} {u3} {u4} {u5} {u6} {u7} {u8}  {K : q36T → Option Res} : vb3 (u0, u1, u2, u3, u4, u5, u6, u7, u8) K = vcn u0 u1 u2 u3 u4 u5 u6 u7 u8 (fun z => K (z, u1, u2, u3, u4, u5, u6, u7, u8)) := by
  simp only [vb3, vcn, Sum.elim_inl, Sum.elim_inr]
def vd1 (u0 : Bool) (u1 : Int) (u2 : Int) (u3 : Int) (u4 : Int) (u5 : (List van)) (u6 : (List vaj)) (u7 : Bool) (u8 : ByteArray) (k : Bool → Option Res) : Option Res :=
    bif (u2 == (3 : Int)) then
      vde u4 (IntKind.wrap .i64 (u3 + (1 : Int))) (9999 : Int) (fun y1 =>
        bif (!y1) then
          k false
        else
          bif (u2 != (3 : Int)) then
            bif (u4 != (0 : Int)) then
              k false
            else
              vcn u0 u1 u2 u3 u4 u5 u6 u7 u8 (fun z2 =>
                k z2)
          else
            vcn u0 u1 u2 u3 u4 u5 u6 u7 u8 (fun z3 =>
              k z3))
    else
      bif (u2 != (3 : Int)) then
        bif (u4 != (0 : Int)) then
          k false
        else
          vcn u0 u1 u2 u3 u4 u5 u6 u7 u8 (fun z4 =>
            k z4)
      else
        vcn u0 u1 u2 u3 u4 u5 u6 u7 u8 (fun z5 =>
          k z5)
theorem vx7 {u0} {u1} {u2} {u3} {u4} {u5} {u6} {u7} {u8}  {K : q36T → Option Res} : vcl (u0, u1, u2, u3, u4, u5, u6, u7, u8) K = vd1 u0 u1 u2 u3 u4 u5 u6 u7 u8 (fun z => K (z, u1, u2, u3, u4, u5, u6, u7, u8)) := by
  simp only [vcl, vd1, vyb, Sum.elim_inl, Sum.elim_inr]
def vme (u0 : Bool) (u1 : (List van)) (u4 : Int) (u5 : Int) (u6 : Int) (u7 : Int) (u8 : (List van)) (u9 : (List vaj)) (u10 : Bool) (u11 : ByteArray) : List van → Nat → (((Bool × Int) ⊕ Int) → Option Res) → Option Res
  | [], i, k =>
    k (.inr (i : Int))
  | y :: l, i, k =>
    vw9 y (fun y1 =>
      bif (!y1) then
        k (.inl (false, (i : Int)))
      else
        vme u0 u1 u4 u5 u6 u7 u8 u9 u10 u11 l (i + 1) k)
theorem wqn {u0} {u1} {u4} {u5} {u6} {u7} {u8} {u9} {u10} {u11} (h0 : u1.length < 9223372036854775807) {K : (q20T ⊕ q20T) → Option Res} : ∀ (l : List van) (i : Nat)  (n : Nat), u1.drop i = l → l.length < n → vah vkn n (u0, u1, (u1.length : Int), (i : Int), u4, u5, u6, u7, u8, u9, u10, u11) K = vme u0 u1 u4 u5 u6 u7 u8 u9 u10 u11 l  i (Sum.elim (fun z => K (.inl (z.1, u1, (u1.length : Int), z.2, u4, u5, u6, u7, u8, u9, u10, u11))) (fun z => K (.inr (u0, u1, (u1.length : Int), z, u4, u5, u6, u7, u8, u9, u10, u11)))) := by
  intro l
  induction l with
  | nil =>
    intro i  n hd hn
    have hge := va6 hd
    cases n with
    | zero => exact absurd hn (Nat.not_lt_zero _)
    | succ n => simp only [vah, vkn, vme, hge, decide_false, cond_false, Sum.elim_inr, Sum.elim_inl]
  | cons y l ih =>
    intro i  n hd hn
    obtain ⟨hlt, hz, hd2, hw, hnn⟩ := vay hd h0
    have hy := vaw hd
    cases n with
    | zero => exact absurd hn (Nat.not_lt_zero _)
    | succ n =>
      have ih2 := ih (i + 1)  n hd2 (Nat.lt_of_succ_lt_succ hn)
      simp only [vah, vkn, vme, hlt, hz, decide_true, cond_true, and_self, if_true, hy, hw, hnn, Sum.elim_inl, Sum.elim_inr, ih2]
theorem wrx {u0} {u1} {u4} {u5} {u6} {u7} {u8} {u9} {u10} {u11} (h0 : u1.length < 9223372036854775807) {K : (q20T ⊕ q20T) → Option Res}  : vah vkn Fuel (u0, u1, (u1.length : Int), (0 : Int), u4, u5, u6, u7, u8, u9, u10, u11) K = vme u0 u1 u4 u5 u6 u7 u8 u9 u10 u11 u1  0 (Sum.elim (fun z => K (.inl (z.1, u1, (u1.length : Int), z.2, u4, u5, u6, u7, u8, u9, u10, u11))) (fun z => K (.inr (u0, u1, (u1.length : Int), z, u4, u5, u6, u7, u8, u9, u10, u11)))) :=
  wqn h0 u1 0  Fuel rfl (vaz h0)
def wj2 (a0 : dTxn) (k : Bool → Option Res) : Option Res :=
  vme false a0.2.2.2.2.1 a0.1 a0.2.1 a0.2.2.1 a0.2.2.2.1 a0.2.2.2.2.1 a0.2.2.2.2.2.1 a0.2.2.2.2.2.2.1 a0.2.2.2.2.2.2.2 a0.2.2.2.2.1  0 (Sum.elim (fun z23 =>
    k z23.1) (fun _ =>
    vde a0.1 (1 : Int) (9999 : Int) (fun y25 =>
      bif (!y25) then
        k false
      else
        vde a0.2.1 (1 : Int) (3 : Int) (fun y26 =>
          bif (!y26) then
            k false
          else
            vde a0.2.2.1 (0 : Int) (9999 : Int) (fun y27 =>
              bif (!y27) then
                k false
              else
                bif (decide ((a0.2.2.2.2.1.length : Int) > (8 : Int))) then
                  k false
                else
                  vtt a0.2.2.2.2.2.1 (fun y28 =>
                    bif (!y28) then
                      k false
                    else
                      bif a0.2.2.2.2.2.2.1 then
                        bif (a0.2.1 == (1 : Int)) then
                          k false
                        else
                          vd1 false a0.1 a0.2.1 a0.2.2.1 a0.2.2.2.1 a0.2.2.2.2.1 a0.2.2.2.2.2.1 a0.2.2.2.2.2.2.1 a0.2.2.2.2.2.2.2 (fun z29 =>
                            k z29)
                      else
                        vd1 false a0.1 a0.2.1 a0.2.2.1 a0.2.2.2.1 a0.2.2.2.2.1 a0.2.2.2.2.2.1 a0.2.2.2.2.2.2.1 a0.2.2.2.2.2.2.2 (fun z30 =>
                          k z30)))))))
theorem w0w {a0 : dTxn} (h0 : a0.2.2.2.2.1.length < 9223372036854775807) {k : Bool → Option Res} : vlf a0 k = wj2 a0 k := by
  rw [wf1]
  simp only [wd6, wj2, vx7, (wrx h0), Sum.elim_inl, Sum.elim_inr]
def vke (u0 : (List (List dTxn))) (u2 : (List (List dTxn))) : List (List dTxn) → Int → Nat → ((Int × Int) → Option Res) → Option Res
  | [], s1, i, k =>
    k (s1, (i : Int))
  | y :: l, s1, i, k =>
    bif (decide ((IntKind.wrap .i64 (s1 + (y.length : Int))) < (0 : Int))) then
      none
    else
      vke u0 u2 l (IntKind.wrap .i64 (s1 + (y.length : Int))) (i + 1) k
theorem wr1 {u0} {u2} (h0 : u2.length < 9223372036854775807) {K : q0T → Option Res} : ∀ (l : List (List dTxn)) (i : Nat) (s1 : Int) (n : Nat), u2.drop i = l → l.length < n → vah vk4 n (u0, s1, u2, (u2.length : Int), (i : Int)) K = vke u0 u2 l s1 i (fun z => K (u0, z.1, u2, (u2.length : Int), z.2)) := by
  intro l
  induction l with
  | nil =>
    intro i s1 n hd hn
    have hge := va6 hd
    cases n with
    | zero => exact absurd hn (Nat.not_lt_zero _)
    | succ n => simp only [vah, vk4, vke, hge, decide_false, cond_false, Sum.elim_inr, Sum.elim_inl]
  | cons y l ih =>
    intro i s1 n hd hn
    obtain ⟨hlt, hz, hd2, hw, hnn⟩ := vay hd h0
    have hy := vaw hd
    cases n with
    | zero => exact absurd hn (Nat.not_lt_zero _)
    | succ n =>
      have ih2 := fun (s1 : Int) => ih (i + 1) s1 n hd2 (Nat.lt_of_succ_lt_succ hn)
      simp only [vah, vk4, vke, hlt, hz, decide_true, cond_true, and_self, if_true, hy, hw, hnn, Sum.elim_inl, Sum.elim_inr, ih2]
theorem wm5 {u0} {u2} (h0 : u2.length < 9223372036854775807) {K : q0T → Option Res} {s1 : Int} : vah vk4 Fuel (u0, s1, u2, (u2.length : Int), (0 : Int)) K = vke u0 u2 u2 s1 0 (fun z => K (u0, z.1, u2, (u2.length : Int), z.2)) :=
  wr1 h0 u2 0 s1 Fuel rfl (vaz h0)
def wje (a0 : (List (List dTxn))) (k : ((List dTxn) ⊕ (List dTxn)) → Option Res) : Option Res :=
  vke a0 a0 a0 (0 : Int) 0 (fun z23 =>
    vu2 z23.1 (Sum.elim (fun y24 =>
      vah ved Fuel (.inl (a0, (a0.length : Int), (0 : Int), y24)) (Sum.elim (fun z25 =>
        k (.inl z25.2.2.2)) (fun z26 =>
        k (.inr z26.2.2.2)))) (fun y27 =>
      vah ved Fuel (.inr (a0, (a0.length : Int), (0 : Int), y27)) (Sum.elim (fun z28 =>
        k (.inl z28.2.2.2)) (fun z29 =>
        k (.inr z29.2.2.2))))))
theorem w2d {a0 : (List (List dTxn))} (h0 : a0.length < 9223372036854775807) {k : ((List dTxn) ⊕ (List dTxn)) → Option Res} : vli a0 k = wje a0 k := by
  rw [wgr]
  simp only [wds, wje, (wm5 h0), Sum.elim_inl, Sum.elim_inr]
def vma (u0 : (List dTxn)) (u1 : Int) : List dTxn → Int → Int → Int → Int → (List van) → (List vaj) → Bool → ByteArray → Nat → (((Int × Int × Int × Int × Int × Int × (List van) × (List vaj) × Bool × ByteArray) ⊕ q48T) → Option Res) → Option Res
  | [], s4, s5, s6, s7, s8, s9, s10, s11, i, k =>
    k (.inr ((i : Int), s4, s5, s6, s7, s8, s9, s10, s11))
  | y :: l, s4, s5, s6, s7, s8, s9, s10, s11, i, k =>
    vux y s4 s5 s6 s7 s8 s9 s10 s11 (fun y1 =>
      bif y1.1 then
        k (.inl ((i : Int), (i : Int), y1.2.1, y1.2.2.1, y1.2.2.2.1, y1.2.2.2.2.1, y1.2.2.2.2.2.1, y1.2.2.2.2.2.2.1, y1.2.2.2.2.2.2.2.1, y1.2.2.2.2.2.2.2.2))
      else
        vma u0 u1 l y1.2.1 y1.2.2.1 y1.2.2.2.1 y1.2.2.2.2.1 y1.2.2.2.2.2.1 y1.2.2.2.2.2.2.1 y1.2.2.2.2.2.2.2.1 y1.2.2.2.2.2.2.2.2 (i + 1) k)
theorem wom {u0} {u1} (h0 : u0.length < 9223372036854775807) {K : (q9T ⊕ q9T) → Option Res} : ∀ (l : List dTxn) (i : Nat) (s4 : Int) (s5 : Int) (s6 : Int) (s7 : Int) (s8 : (List van)) (s9 : (List vaj)) (s10 : Bool) (s11 : ByteArray) (n : Nat), u0.drop i = l → l.length < n → vah vjn n (u0, u1, (u0.length : Int), (i : Int), s4, s5, s6, s7, s8, s9, s10, s11) K = vma u0 u1 l s4 s5 s6 s7 s8 s9 s10 s11 i (Sum.elim (fun z => K (.inl (u0, z.1, (u0.length : Int), z.2.1, z.2.2.1, z.2.2.2.1, z.2.2.2.2.1, z.2.2.2.2.2.1, z.2.2.2.2.2.2.1, z.2.2.2.2.2.2.2.1, z.2.2.2.2.2.2.2.2.1, z.2.2.2.2.2.2.2.2.2))) (fun z => K (.inr (u0, u1, (u0.length : Int), z.1, z.2.1, z.2.2.1, z.2.2.2.1, z.2.2.2.2.1, z.2.2.2.2.2.1, z.2.2.2.2.2.2.1, z.2.2.2.2.2.2.2.1, z.2.2.2.2.2.2.2.2)))) := by
  intro l
  induction l with
  | nil =>
    intro i s4 s5 s6 s7 s8 s9 s10 s11 n hd hn
    have hge := va6 hd
    cases n with
    | zero => exact absurd hn (Nat.not_lt_zero _)
    | succ n => simp only [vah, vjn, vma, hge, decide_false, cond_false, Sum.elim_inr, Sum.elim_inl]
  | cons y l ih =>
    intro i s4 s5 s6 s7 s8 s9 s10 s11 n hd hn
    obtain ⟨hlt, hz, hd2, hw, hnn⟩ := vay hd h0
    have hy := vaw hd
    cases n with
    | zero => exact absurd hn (Nat.not_lt_zero _)
    | succ n =>
      have ih2 := fun (s4 : Int) (s5 : Int) (s6 : Int) (s7 : Int) (s8 : (List van)) (s9 : (List vaj)) (s10 : Bool) (s11 : ByteArray) => ih (i + 1) s4 s5 s6 s7 s8 s9 s10 s11 n hd2 (Nat.lt_of_succ_lt_succ hn)
      simp only [vah, vjn, vma, hlt, hz, decide_true, cond_true, and_self, if_true, hy, hw, hnn, Sum.elim_inl, Sum.elim_inr, ih2]
theorem wq8 {u0} {u1} (h0 : u0.length < 9223372036854775807) {K : (q9T ⊕ q9T) → Option Res} {s4 : Int} {s5 : Int} {s6 : Int} {s7 : Int} {s8 : (List van)} {s9 : (List vaj)} {s10 : Bool} {s11 : ByteArray} : vah vjn Fuel (u0, u1, (u0.length : Int), (0 : Int), s4, s5, s6, s7, s8, s9, s10, s11) K = vma u0 u1 u0 s4 s5 s6 s7 s8 s9 s10 s11 0 (Sum.elim (fun z => K (.inl (u0, z.1, (u0.length : Int), z.2.1, z.2.2.1, z.2.2.2.1, z.2.2.2.2.1, z.2.2.2.2.2.1, z.2.2.2.2.2.2.1, z.2.2.2.2.2.2.2.1, z.2.2.2.2.2.2.2.2.1, z.2.2.2.2.2.2.2.2.2))) (fun z => K (.inr (u0, u1, (u0.length : Int), z.1, z.2.1, z.2.2.1, z.2.2.2.1, z.2.2.2.2.1, z.2.2.2.2.2.1, z.2.2.2.2.2.2.1, z.2.2.2.2.2.2.2.1, z.2.2.2.2.2.2.2.2)))) :=
  wom h0 u0 0 s4 s5 s6 s7 s8 s9 s10 s11 Fuel rfl (vaz h0)
def whu (a0 : (List dTxn)) (a1 : Int) (a2 : Int) (a3 : Int) (a4 : Int) (a5 : (List van)) (a6 : (List vaj)) (a7 : Bool) (a8 : ByteArray) (k : q48T → Option Res) : Option Res :=
  vma a0 (0 : Int) a0 a1 a2 a3 a4 a5 a6 a7 a8 0 (Sum.elim (fun z23 =>
    k (z23.1, z23.2.2.1, z23.2.2.2.1, z23.2.2.2.2.1, z23.2.2.2.2.2.1, z23.2.2.2.2.2.2.1, z23.2.2.2.2.2.2.2.1, z23.2.2.2.2.2.2.2.2.1, z23.2.2.2.2.2.2.2.2.2)) (fun z24 =>
    k ((-1 : Int), z24.2.1, z24.2.2.1, z24.2.2.2.1, z24.2.2.2.2.1, z24.2.2.2.2.2.1, z24.2.2.2.2.2.2.1, z24.2.2.2.2.2.2.2.1, z24.2.2.2.2.2.2.2.2)))
theorem w2r {a0 : (List dTxn)} {a1 : Int} {a2 : Int} {a3 : Int} {a4 : Int} {a5 : (List van)} {a6 : (List vaj)} {a7 : Bool} {a8 : ByteArray} (h0 : a0.length < 9223372036854775807) {k : q48T → Option Res} : vz1 a0 a1 a2 a3 a4 a5 a6 a7 a8 k = whu a0 a1 a2 a3 a4 a5 a6 a7 a8 k := by
  rw [wib]
  simp only [wc5, whu, (wq8 h0), Sum.elim_inl, Sum.elim_inr]
def vl5 (u0 : (List dTxn)) (u1 : Int) (u2 : Bool) (u3 : (List dTxn)) : List dTxn → Nat → (((Bool × Int) ⊕ Int) → Option Res) → Option Res
  | [], i, k =>
    k (.inr (i : Int))
  | y :: l, i, k =>
    bif (decide (y.1 ≥ u1)) then
      k (.inl (false, (i : Int)))
    else
      if 0 ≤ (0 : Int) ∧ (0 : Int) ≤ (i : Int) ∧ (i : Int) ≤ (u0.length : Int) then
        vu7 ((u0.take (i : Int).toNat).drop (0 : Int).toNat) y.1 y.2.1 y.2.2.1 y.2.2.2.1 y.2.2.2.2.1 y.2.2.2.2.2.1 y.2.2.2.2.2.2.1 y.2.2.2.2.2.2.2 (fun y1 =>
          bif y1.1 then
            k (.inl (false, (i : Int)))
          else
            vl5 u0 u1 u2 u3 l (i + 1) k)
      else none
theorem wn3 {u0} {u1} {u2} {u3} (h0 : u3.length < 9223372036854775807) {K : (q7T ⊕ q7T) → Option Res} : ∀ (l : List dTxn) (i : Nat)  (n : Nat), u3.drop i = l → l.length < n → vah vjq n (u0, u1, u2, u3, (u3.length : Int), (i : Int)) K = vl5 u0 u1 u2 u3 l  i (Sum.elim (fun z => K (.inl (u0, u1, z.1, u3, (u3.length : Int), z.2))) (fun z => K (.inr (u0, u1, u2, u3, (u3.length : Int), z)))) := by
  intro l
  induction l with
  | nil =>
    intro i  n hd hn
    have hge := va6 hd
    cases n with
    | zero => exact absurd hn (Nat.not_lt_zero _)
    | succ n => simp only [vah, vjq, vl5, hge, decide_false, cond_false, Sum.elim_inr, Sum.elim_inl]
  | cons y l ih =>
    intro i  n hd hn
    obtain ⟨hlt, hz, hd2, hw, hnn⟩ := vay hd h0
    have hy := vaw hd
    cases n with
    | zero => exact absurd hn (Nat.not_lt_zero _)
    | succ n =>
      have ih2 := ih (i + 1)  n hd2 (Nat.lt_of_succ_lt_succ hn)
      simp only [vah, vjq, vl5, hlt, hz, decide_true, cond_true, and_self, if_true, hy, hw, hnn, Sum.elim_inl, Sum.elim_inr, ih2]
theorem wnq {u0} {u1} {u2} {u3} (h0 : u3.length < 9223372036854775807) {K : (q7T ⊕ q7T) → Option Res}  : vah vjq Fuel (u0, u1, u2, u3, (u3.length : Int), (0 : Int)) K = vl5 u0 u1 u2 u3 u3  0 (Sum.elim (fun z => K (.inl (u0, u1, z.1, u3, (u3.length : Int), z.2))) (fun z => K (.inr (u0, u1, u2, u3, (u3.length : Int), z)))) :=
  wn3 h0 u3 0  Fuel rfl (vaz h0)
def whx (a0 : (List dTxn)) (a1 : Int) (k : Bool → Option Res) : Option Res :=
  vl5 a0 a1 false a0 a0  0 (Sum.elim (fun z23 =>
    k z23.1) (fun _ =>
    k true))
theorem wyu {a0 : (List dTxn)} {a1 : Int} (h0 : a0.length < 9223372036854775807) {k : Bool → Option Res} : vh6 a0 a1 k = whx a0 a1 k := by
  rw [wk6]
  simp only [wb3, whx, (wnq h0), Sum.elim_inl, Sum.elim_inr]
def vls (u0 : Bool) (u1 : (List vac)) (u4 : (List vac)) (u5 : (List dTxn)) (u6 : (List dTxn)) (u7 : Int) (u8 : Int) : List vac → Nat → (((Bool × Int) ⊕ Int) → Option Res) → Option Res
  | [], i, k =>
    k (.inr (i : Int))
  | y :: l, i, k =>
    bif (decide (y.2.2.2 > u7)) then
      k (.inl (false, (i : Int)))
    else
      vls u0 u1 u4 u5 u6 u7 u8 l (i + 1) k
theorem wrz {u0} {u1} {u4} {u5} {u6} {u7} {u8} (h0 : u1.length < 9223372036854775807) {K : (q26T ⊕ q26T) → Option Res} : ∀ (l : List vac) (i : Nat)  (n : Nat), u1.drop i = l → l.length < n → vah vj8 n (u0, u1, (u1.length : Int), (i : Int), u4, u5, u6, u7, u8) K = vls u0 u1 u4 u5 u6 u7 u8 l  i (Sum.elim (fun z => K (.inl (z.1, u1, (u1.length : Int), z.2, u4, u5, u6, u7, u8))) (fun z => K (.inr (u0, u1, (u1.length : Int), z, u4, u5, u6, u7, u8)))) := by
  intro l
  induction l with
  | nil =>
    intro i  n hd hn
    have hge := va6 hd
    cases n with
    | zero => exact absurd hn (Nat.not_lt_zero _)
    | succ n => simp only [vah, vj8, vls, hge, decide_false, cond_false, Sum.elim_inr, Sum.elim_inl]
  | cons y l ih =>
    intro i  n hd hn
    obtain ⟨hlt, hz, hd2, hw, hnn⟩ := vay hd h0
    have hy := vaw hd
    cases n with
    | zero => exact absurd hn (Nat.not_lt_zero _)
    | succ n =>
      have ih2 := ih (i + 1)  n hd2 (Nat.lt_of_succ_lt_succ hn)
      simp only [vah, vj8, vls, hlt, hz, decide_true, cond_true, and_self, if_true, hy, hw, hnn, Sum.elim_inl, Sum.elim_inr, ih2]
theorem wn4 {u0} {u1} {u4} {u5} {u6} {u7} {u8} (h0 : u1.length < 9223372036854775807) {K : (q26T ⊕ q26T) → Option Res}  : vah vj8 Fuel (u0, u1, (u1.length : Int), (0 : Int), u4, u5, u6, u7, u8) K = vls u0 u1 u4 u5 u6 u7 u8 u1  0 (Sum.elim (fun z => K (.inl (z.1, u1, (u1.length : Int), z.2, u4, u5, u6, u7, u8))) (fun z => K (.inr (u0, u1, (u1.length : Int), z, u4, u5, u6, u7, u8)))) :=
  wrz h0 u1 0  Fuel rfl (vaz h0)
def vjj (u0 : Bool) (u1 : (List dTxn)) (u4 : (List vac)) (u5 : (List dTxn)) (u6 : (List dTxn)) (u7 : Int) (u8 : Int) : List dTxn → Nat → (((Bool × Int) ⊕ Int) → Option Res) → Option Res
  | [], i, k =>
    k (.inr (i : Int))
  | y :: l, i, k =>
    vlf y (fun y1 =>
      bif (!y1) then
        k (.inl (false, (i : Int)))
      else
        vvu y (fun y2 =>
          bif (!y2) then
            k (.inl (false, (i : Int)))
          else
            bif (decide (y.2.2.2.1 > u7)) then
              k (.inl (false, (i : Int)))
            else
              bif (decide ((i : Int) > (0 : Int))) then
                if 0 ≤ (IntKind.wrap .i64 ((i : Int) - (1 : Int))) ∧ (IntKind.wrap .i64 ((i : Int) - (1 : Int))) < (u5.length : Int) then
                  bif (decide ((rd (Ty.zero tTxn) u5 (IntKind.wrap .i64 ((i : Int) - (1 : Int)))).2.2.2.1 ≥ y.2.2.2.1)) then
                    k (.inl (false, (i : Int)))
                  else
                    vjj u0 u1 u4 u5 u6 u7 u8 l (i + 1) k
                else none
              else
                vjj u0 u1 u4 u5 u6 u7 u8 l (i + 1) k))
theorem wog {u0} {u1} {u4} {u5} {u6} {u7} {u8} (h0 : u1.length < 9223372036854775807) {K : (q22T ⊕ q22T) → Option Res} : ∀ (l : List dTxn) (i : Nat)  (n : Nat), u1.drop i = l → l.length < n → vah vjx n (u0, u1, (u1.length : Int), (i : Int), u4, u5, u6, u7, u8) K = vjj u0 u1 u4 u5 u6 u7 u8 l  i (Sum.elim (fun z => K (.inl (z.1, u1, (u1.length : Int), z.2, u4, u5, u6, u7, u8))) (fun z => K (.inr (u0, u1, (u1.length : Int), z, u4, u5, u6, u7, u8)))) := by
  intro l
  induction l with
  | nil =>
    intro i  n hd hn
    have hge := va6 hd
    cases n with
    | zero => exact absurd hn (Nat.not_lt_zero _)
    | succ n => simp only [vah, vjx, vjj, hge, decide_false, cond_false, Sum.elim_inr, Sum.elim_inl]
  | cons y l ih =>
    intro i  n hd hn
    obtain ⟨hlt, hz, hd2, hw, hnn⟩ := vay hd h0
    have hy := vaw hd
    cases n with
    | zero => exact absurd hn (Nat.not_lt_zero _)
    | succ n =>
      have ih2 := ih (i + 1)  n hd2 (Nat.lt_of_succ_lt_succ hn)
      simp only [vah, vjx, vjj, hlt, hz, decide_true, cond_true, and_self, if_true, hy, hw, hnn, Sum.elim_inl, Sum.elim_inr, ih2]
theorem wmu {u0} {u1} {u4} {u5} {u6} {u7} {u8} (h0 : u1.length < 9223372036854775807) {K : (q22T ⊕ q22T) → Option Res}  : vah vjx Fuel (u0, u1, (u1.length : Int), (0 : Int), u4, u5, u6, u7, u8) K = vjj u0 u1 u4 u5 u6 u7 u8 u1  0 (Sum.elim (fun z => K (.inl (z.1, u1, (u1.length : Int), z.2, u4, u5, u6, u7, u8))) (fun z => K (.inr (u0, u1, (u1.length : Int), z, u4, u5, u6, u7, u8)))) :=
  wog h0 u1 0  Fuel rfl (vaz h0)
def vky (u0 : Bool) (u1 : (List dTxn)) (u4 : (List vac)) (u5 : (List dTxn)) (u6 : (List dTxn)) (u7 : Int) (u8 : Int) : List dTxn → Nat → (((Bool × Int) ⊕ Int) → Option Res) → Option Res
  | [], i, k =>
    k (.inr (i : Int))
  | y :: l, i, k =>
    vlf y (fun y1 =>
      bif (!y1) then
        k (.inl (false, (i : Int)))
      else
        vwn y (fun y2 =>
          bif (!y2) then
            k (.inl (false, (i : Int)))
          else
            bif (decide (y.2.2.1 > u7)) then
              k (.inl (false, (i : Int)))
            else
              bif (decide ((i : Int) > (0 : Int))) then
                if 0 ≤ (IntKind.wrap .i64 ((i : Int) - (1 : Int))) ∧ (IntKind.wrap .i64 ((i : Int) - (1 : Int))) < (u6.length : Int) then
                  bif (!(va2 ((rd (Ty.zero tTxn) u6 (IntKind.wrap .i64 ((i : Int) - (1 : Int)))).2.2.2.2.2.2.2) (y.2.2.2.2.2.2.2))) then
                    k (.inl (false, (i : Int)))
                  else
                    vky u0 u1 u4 u5 u6 u7 u8 l (i + 1) k
                else none
              else
                vky u0 u1 u4 u5 u6 u7 u8 l (i + 1) k))
theorem wqx {u0} {u1} {u4} {u5} {u6} {u7} {u8} (h0 : u1.length < 9223372036854775807) {K : (q22T ⊕ q22T) → Option Res} : ∀ (l : List dTxn) (i : Nat)  (n : Nat), u1.drop i = l → l.length < n → vah vku n (u0, u1, (u1.length : Int), (i : Int), u4, u5, u6, u7, u8) K = vky u0 u1 u4 u5 u6 u7 u8 l  i (Sum.elim (fun z => K (.inl (z.1, u1, (u1.length : Int), z.2, u4, u5, u6, u7, u8))) (fun z => K (.inr (u0, u1, (u1.length : Int), z, u4, u5, u6, u7, u8)))) := by
  intro l
  induction l with
  | nil =>
    intro i  n hd hn
    have hge := va6 hd
    cases n with
    | zero => exact absurd hn (Nat.not_lt_zero _)
    | succ n => simp only [vah, vku, vky, hge, decide_false, cond_false, Sum.elim_inr, Sum.elim_inl]
  | cons y l ih =>
    intro i  n hd hn
    obtain ⟨hlt, hz, hd2, hw, hnn⟩ := vay hd h0
    have hy := vaw hd
    cases n with
    | zero => exact absurd hn (Nat.not_lt_zero _)
    | succ n =>
      have ih2 := ih (i + 1)  n hd2 (Nat.lt_of_succ_lt_succ hn)
      simp only [vah, vku, vky, hlt, hz, decide_true, cond_true, and_self, if_true, hy, hw, hnn, Sum.elim_inl, Sum.elim_inr, ih2]
theorem wsd {u0} {u1} {u4} {u5} {u6} {u7} {u8} (h0 : u1.length < 9223372036854775807) {K : (q22T ⊕ q22T) → Option Res}  : vah vku Fuel (u0, u1, (u1.length : Int), (0 : Int), u4, u5, u6, u7, u8) K = vky u0 u1 u4 u5 u6 u7 u8 u1  0 (Sum.elim (fun z => K (.inl (z.1, u1, (u1.length : Int), z.2, u4, u5, u6, u7, u8))) (fun z => K (.inr (u0, u1, (u1.length : Int), z, u4, u5, u6, u7, u8)))) :=
  wqx h0 u1 0  Fuel rfl (vaz h0)
def vgp (u0 : Bool) (u1 : (List vac)) (u2 : (List dTxn)) (u3 : (List dTxn)) (u4 : Int) (u5 : Int) (k : Bool → Option Res) : Option Res :=
    vls u0 u1 u1 u2 u3 u4 u5 u1  0 (Sum.elim (fun z1 =>
      k z1.1) (fun _ =>
      vjj u0 u2 u1 u2 u3 u4 u5 u2  0 (Sum.elim (fun z3 =>
        k z3.1) (fun _ =>
        vky u0 u3 u1 u2 u3 u4 u5 u3  0 (Sum.elim (fun z5 =>
          k z5.1) (fun _ =>
          vli [u2, u3] (Sum.elim (fun y7 =>
            vh6 y7 u5 (fun y8 =>
              k y8)) (fun y9 =>
            vh6 y9 u5 (fun y10 =>
              k y10)))))))))
theorem vyg {u0} {u1} {u2} {u3} {u4} {u5} (h0 : u3.length < 9223372036854775807) (h1 : u2.length < 9223372036854775807) (h2 : u1.length < 9223372036854775807) {K : q25T → Option Res} : vcz (u0, u1, u2, u3, u4, u5) K = vgp u0 u1 u2 u3 u4 u5 (fun z => K (z, u1, u2, u3, u4, u5)) := by
  simp only [vcz, vgp, (wsd h0), (wmu h1), (wn4 h2), Sum.elim_inl, Sum.elim_inr]
def wl4 (a0 : vha) (k : Bool → Option Res) : Option Res :=
  vtf a0.1 (fun y23 =>
    bif (!y23) then
      k false
    else
      bif (decide ((a0.2.1.length : Int) > (12 : Int))) then
        k false
      else
        bif (decide ((a0.2.2.1.length : Int) > (3 : Int))) then
          k false
        else
          vde a0.2.2.2.1 (0 : Int) (9999 : Int) (fun y24 =>
            bif (!y24) then
              k false
            else
              vde a0.2.2.2.2 (1 : Int) (9999 : Int) (fun y25 =>
                bif (!y25) then
                  k false
                else
                  vgp false a0.1 a0.2.1 a0.2.2.1 a0.2.2.2.1 a0.2.2.2.2 (fun z26 =>
                    k z26))))
theorem wwe {a0 : vha} (h0 : a0.2.2.1.length < 9223372036854775807) (h1 : a0.2.1.length < 9223372036854775807) (h2 : a0.1.length < 9223372036854775807) {k : Bool → Option Res} : vte a0 k = wl4 a0 k := by
  rw [wg5]
  simp only [wbw, wl4, (vyg h0 h1 h2), Sum.elim_inl, Sum.elim_inr]
def vla (u0 : Bool) (u1 : (List dTxn)) (u4 : (List vac)) (u5 : (List dTxn)) (u6 : (List dTxn)) (u7 : Int) (u8 : Int) (u9 : (List dTxn)) : List dTxn → Nat → (((Bool × Int) ⊕ Int) → Option Res) → Option Res
  | [], i, k =>
    k (.inr (i : Int))
  | y :: l, i, k =>
    vlf y (fun y1 =>
      bif (!y1) then
        k (.inl (false, (i : Int)))
      else
        bif (y.2.1 != (1 : Int)) then
          k (.inl (false, (i : Int)))
        else
          bif (decide (y.2.2.1 > u7)) then
            k (.inl (false, (i : Int)))
          else
            bif (decide ((i : Int) > (0 : Int))) then
              if 0 ≤ (IntKind.wrap .i64 ((i : Int) - (1 : Int))) ∧ (IntKind.wrap .i64 ((i : Int) - (1 : Int))) < (u9.length : Int) then
                bif (decide ((rd (Ty.zero tTxn) u9 (IntKind.wrap .i64 ((i : Int) - (1 : Int)))).1 ≥ y.1)) then
                  k (.inl (false, (i : Int)))
                else
                  vla u0 u1 u4 u5 u6 u7 u8 u9 l (i + 1) k
              else none
            else
              vla u0 u1 u4 u5 u6 u7 u8 u9 l (i + 1) k)
theorem wqe {u0} {u1} {u4} {u5} {u6} {u7} {u8} {u9} (h0 : u1.length < 9223372036854775807) {K : (q21T ⊕ q21T) → Option Res} : ∀ (l : List dTxn) (i : Nat)  (n : Nat), u1.drop i = l → l.length < n → vah vkh n (u0, u1, (u1.length : Int), (i : Int), u4, u5, u6, u7, u8, u9) K = vla u0 u1 u4 u5 u6 u7 u8 u9 l  i (Sum.elim (fun z => K (.inl (z.1, u1, (u1.length : Int), z.2, u4, u5, u6, u7, u8, u9))) (fun z => K (.inr (u0, u1, (u1.length : Int), z, u4, u5, u6, u7, u8, u9)))) := by
  intro l
  induction l with
  | nil =>
    intro i  n hd hn
    have hge := va6 hd
    cases n with
    | zero => exact absurd hn (Nat.not_lt_zero _)
    | succ n => simp only [vah, vkh, vla, hge, decide_false, cond_false, Sum.elim_inr, Sum.elim_inl]
  | cons y l ih =>
    intro i  n hd hn
    obtain ⟨hlt, hz, hd2, hw, hnn⟩ := vay hd h0
    have hy := vaw hd
    cases n with
    | zero => exact absurd hn (Nat.not_lt_zero _)
    | succ n =>
      have ih2 := ih (i + 1)  n hd2 (Nat.lt_of_succ_lt_succ hn)
      simp only [vah, vkh, vla, hlt, hz, decide_true, cond_true, and_self, if_true, hy, hw, hnn, Sum.elim_inl, Sum.elim_inr, ih2]
theorem wpt {u0} {u1} {u4} {u5} {u6} {u7} {u8} {u9} (h0 : u1.length < 9223372036854775807) {K : (q21T ⊕ q21T) → Option Res}  : vah vkh Fuel (u0, u1, (u1.length : Int), (0 : Int), u4, u5, u6, u7, u8, u9) K = vla u0 u1 u4 u5 u6 u7 u8 u9 u1  0 (Sum.elim (fun z => K (.inl (z.1, u1, (u1.length : Int), z.2, u4, u5, u6, u7, u8, u9))) (fun z => K (.inr (u0, u1, (u1.length : Int), z, u4, u5, u6, u7, u8, u9)))) :=
  wqe h0 u1 0  Fuel rfl (vaz h0)
def vd3 (u0 : Bool) (u1 : (List vac)) (u2 : (List dTxn)) (u3 : (List dTxn)) (u4 : Int) (u5 : Int) (u6 : (List dTxn)) (k : Bool → Option Res) : Option Res :=
    vla u0 u6 u1 u2 u3 u4 u5 u6 u6  0 (Sum.elim (fun z1 =>
      k z1.1) (fun _ =>
      k true))
theorem vxh {u0} {u1} {u2} {u3} {u4} {u5} {u6} (h0 : u6.length < 9223372036854775807) {K : q24T → Option Res} : vcf (u0, u1, u2, u3, u4, u5, u6) K = vd3 u0 u1 u2 u3 u4 u5 u6 (fun z => K (z, u1, u2, u3, u4, u5, u6)) := by
  simp only [vcf, vd3, (wpt h0), Sum.elim_inl, Sum.elim_inr]
def wlo (a0 : va7) (k : Bool → Option Res) : Option Res :=
  vte a0.1 (fun y23 =>
    bif (!y23) then
      k false
    else
      bif (decide ((a0.2.length : Int) > (4 : Int))) then
        k false
      else
        vli [a0.1.2.1, a0.1.2.2.1, a0.2] (Sum.elim (fun y24 =>
          vh6 y24 a0.1.2.2.2.2 (fun y25 =>
            bif (!y25) then
              k false
            else
              vd3 false a0.1.1 a0.1.2.1 a0.1.2.2.1 a0.1.2.2.2.1 a0.1.2.2.2.2 a0.2 (fun z26 =>
                k z26))) (fun y27 =>
          vh6 y27 a0.1.2.2.2.2 (fun y28 =>
            bif (!y28) then
              k false
            else
              vd3 false a0.1.1 a0.1.2.1 a0.1.2.2.1 a0.1.2.2.2.1 a0.1.2.2.2.2 a0.2 (fun z29 =>
                k z29)))))
theorem w0r {a0 : va7} (h0 : a0.2.length < 9223372036854775807) {k : Bool → Option Res} : vuo a0 k = wlo a0 k := by
  rw [wlw]
  simp only [wch, wlo, (vxh h0), Sum.elim_inl, Sum.elim_inr]
def vmc (u0 : (List vac)) (u1 : (List vac)) (u2 : Bool) : List vac → Nat → (((Bool × Int) ⊕ Int) → Option Res) → Option Res
  | [], i, k =>
    k (.inr (i : Int))
  | y :: l, i, k =>
    if 0 ≤ (i : Int) ∧ (i : Int) < (u1.length : Int) then
      vwy y (rd (Ty.zero tVersion) u1 (i : Int)) (fun y1 =>
        bif (!y1) then
          k (.inl (false, (i : Int)))
        else
          vmc u0 u1 u2 l (i + 1) k)
    else none
theorem wp1 {u0} {u1} {u2} (h0 : u0.length < 9223372036854775807) {K : (q11T ⊕ q11T) → Option Res} : ∀ (l : List vac) (i : Nat)  (n : Nat), u0.drop i = l → l.length < n → vah vld n (u0, u1, u2, (i : Int)) K = vmc u0 u1 u2 l  i (Sum.elim (fun z => K (.inl (u0, u1, z.1, z.2))) (fun z => K (.inr (u0, u1, u2, z)))) := by
  intro l
  induction l with
  | nil =>
    intro i  n hd hn
    have hge := va6 hd
    cases n with
    | zero => exact absurd hn (Nat.not_lt_zero _)
    | succ n => simp only [vah, vld, vmc, hge, decide_false, cond_false, Sum.elim_inr, Sum.elim_inl]
  | cons y l ih =>
    intro i  n hd hn
    obtain ⟨hlt, hz, hd2, hw, hnn⟩ := vay hd h0
    have hy := vaw hd
    cases n with
    | zero => exact absurd hn (Nat.not_lt_zero _)
    | succ n =>
      have ih2 := ih (i + 1)  n hd2 (Nat.lt_of_succ_lt_succ hn)
      simp only [vah, vld, vmc, hlt, hz, decide_true, cond_true, and_self, if_true, hy, hw, hnn, Sum.elim_inl, Sum.elim_inr, ih2]
theorem wr0 {u0} {u1} {u2} (h0 : u0.length < 9223372036854775807) {K : (q11T ⊕ q11T) → Option Res}  : vah vld Fuel (u0, u1, u2, (0 : Int)) K = vmc u0 u1 u2 u0  0 (Sum.elim (fun z => K (.inl (u0, u1, z.1, z.2))) (fun z => K (.inr (u0, u1, u2, z)))) :=
  wp1 h0 u0 0  Fuel rfl (vaz h0)
def wga (a0 : (List vac)) (a1 : (List vac)) (k : Bool → Option Res) : Option Res :=
  bif ((a0.length : Int) != (a1.length : Int)) then
    k false
  else
    vmc a0 a1 false a0  0 (Sum.elim (fun z23 =>
      k z23.1) (fun _ =>
      k true))
theorem w1p {a0 : (List vac)} {a1 : (List vac)} (h0 : a0.length < 9223372036854775807) {k : Bool → Option Res} : vw3 a0 a1 k = wga a0 a1 k := by
  rw [wll]
  simp only [wao, wga, (wr0 h0), Sum.elim_inl, Sum.elim_inr]
def vlz (u0 : (List van)) (u1 : (List van)) (u2 : Bool) : List van → Nat → (((Bool × Int) ⊕ Int) → Option Res) → Option Res
  | [], i, k =>
    k (.inr (i : Int))
  | y :: l, i, k =>
    if 0 ≤ (i : Int) ∧ (i : Int) < (u1.length : Int) then
      vxb y (rd (Ty.zero tRange) u1 (i : Int)) (fun y1 =>
        bif (!y1) then
          k (.inl (false, (i : Int)))
        else
          vlz u0 u1 u2 l (i + 1) k)
    else none
theorem wqg {u0} {u1} {u2} (h0 : u0.length < 9223372036854775807) {K : (q2T ⊕ q2T) → Option Res} : ∀ (l : List van) (i : Nat)  (n : Nat), u0.drop i = l → l.length < n → vah vj3 n (u0, u1, u2, (i : Int)) K = vlz u0 u1 u2 l  i (Sum.elim (fun z => K (.inl (u0, u1, z.1, z.2))) (fun z => K (.inr (u0, u1, u2, z)))) := by
  intro l
  induction l with
  | nil =>
    intro i  n hd hn
    have hge := va6 hd
    cases n with
    | zero => exact absurd hn (Nat.not_lt_zero _)
    | succ n => simp only [vah, vj3, vlz, hge, decide_false, cond_false, Sum.elim_inr, Sum.elim_inl]
  | cons y l ih =>
    intro i  n hd hn
    obtain ⟨hlt, hz, hd2, hw, hnn⟩ := vay hd h0
    have hy := vaw hd
    cases n with
    | zero => exact absurd hn (Nat.not_lt_zero _)
    | succ n =>
      have ih2 := ih (i + 1)  n hd2 (Nat.lt_of_succ_lt_succ hn)
      simp only [vah, vj3, vlz, hlt, hz, decide_true, cond_true, and_self, if_true, hy, hw, hnn, Sum.elim_inl, Sum.elim_inr, ih2]
theorem wna {u0} {u1} {u2} (h0 : u0.length < 9223372036854775807) {K : (q2T ⊕ q2T) → Option Res}  : vah vj3 Fuel (u0, u1, u2, (0 : Int)) K = vlz u0 u1 u2 u0  0 (Sum.elim (fun z => K (.inl (u0, u1, z.1, z.2))) (fun z => K (.inr (u0, u1, u2, z)))) :=
  wqg h0 u0 0  Fuel rfl (vaz h0)
def wh1 (a0 : (List van)) (a1 : (List van)) (k : Bool → Option Res) : Option Res :=
  bif ((a0.length : Int) != (a1.length : Int)) then
    k false
  else
    vlz a0 a1 false a0  0 (Sum.elim (fun z23 =>
      k z23.1) (fun _ =>
      k true))
theorem w3c {a0 : (List van)} {a1 : (List van)} (h0 : a0.length < 9223372036854775807) {k : Bool → Option Res} : vwm a0 a1 k = wh1 a0 a1 k := by
  rw [wk2]
  simp only [wdz, wh1, (wna h0), Sum.elim_inl, Sum.elim_inr]
def vmt (u0 : (List vaj)) (u1 : (List vaj)) (u2 : Bool) : List vaj → Nat → (((Bool × Int) ⊕ Int) → Option Res) → Option Res
  | [], i, k =>
    k (.inr (i : Int))
  | y :: l, i, k =>
    if 0 ≤ (i : Int) ∧ (i : Int) < (u1.length : Int) then
      vuw y (rd (Ty.zero tWrite) u1 (i : Int)) (fun y1 =>
        bif (!y1) then
          k (.inl (false, (i : Int)))
        else
          vmt u0 u1 u2 l (i + 1) k)
    else none
theorem wqo {u0} {u1} {u2} (h0 : u0.length < 9223372036854775807) {K : (q16T ⊕ q16T) → Option Res} : ∀ (l : List vaj) (i : Nat)  (n : Nat), u0.drop i = l → l.length < n → vah vjw n (u0, u1, u2, (i : Int)) K = vmt u0 u1 u2 l  i (Sum.elim (fun z => K (.inl (u0, u1, z.1, z.2))) (fun z => K (.inr (u0, u1, u2, z)))) := by
  intro l
  induction l with
  | nil =>
    intro i  n hd hn
    have hge := va6 hd
    cases n with
    | zero => exact absurd hn (Nat.not_lt_zero _)
    | succ n => simp only [vah, vjw, vmt, hge, decide_false, cond_false, Sum.elim_inr, Sum.elim_inl]
  | cons y l ih =>
    intro i  n hd hn
    obtain ⟨hlt, hz, hd2, hw, hnn⟩ := vay hd h0
    have hy := vaw hd
    cases n with
    | zero => exact absurd hn (Nat.not_lt_zero _)
    | succ n =>
      have ih2 := ih (i + 1)  n hd2 (Nat.lt_of_succ_lt_succ hn)
      simp only [vah, vjw, vmt, hlt, hz, decide_true, cond_true, and_self, if_true, hy, hw, hnn, Sum.elim_inl, Sum.elim_inr, ih2]
theorem wqz {u0} {u1} {u2} (h0 : u0.length < 9223372036854775807) {K : (q16T ⊕ q16T) → Option Res}  : vah vjw Fuel (u0, u1, u2, (0 : Int)) K = vmt u0 u1 u2 u0  0 (Sum.elim (fun z => K (.inl (u0, u1, z.1, z.2))) (fun z => K (.inr (u0, u1, u2, z)))) :=
  wqo h0 u0 0  Fuel rfl (vaz h0)
def wh0 (a0 : (List vaj)) (a1 : (List vaj)) (k : Bool → Option Res) : Option Res :=
  bif ((a0.length : Int) != (a1.length : Int)) then
    k false
  else
    vmt a0 a1 false a0  0 (Sum.elim (fun z23 =>
      k z23.1) (fun _ =>
      k true))
theorem wv7 {a0 : (List vaj)} {a1 : (List vaj)} (h0 : a0.length < 9223372036854775807) {k : Bool → Option Res} : vvj a0 a1 k = wh0 a0 a1 k := by
  rw [wld]
  simp only [wbt, wh0, (wqz h0), Sum.elim_inl, Sum.elim_inr]
def vip (u0 : (List dTxn)) (u1 : (List dTxn)) (u2 : Bool) : List dTxn → Nat → (((Bool × Int) ⊕ Int) → Option Res) → Option Res
  | [], i, k =>
    k (.inr (i : Int))
  | y :: l, i, k =>
    if 0 ≤ (i : Int) ∧ (i : Int) < (u1.length : Int) then
      vtb y (rd (Ty.zero tTxn) u1 (i : Int)) (fun y1 =>
        bif (!y1) then
          k (.inl (false, (i : Int)))
        else
          vip u0 u1 u2 l (i + 1) k)
    else none
theorem wm3 {u0} {u1} {u2} (h0 : u0.length < 9223372036854775807) {K : (q5T ⊕ q5T) → Option Res} : ∀ (l : List dTxn) (i : Nat)  (n : Nat), u0.drop i = l → l.length < n → vah vjl n (u0, u1, u2, (i : Int)) K = vip u0 u1 u2 l  i (Sum.elim (fun z => K (.inl (u0, u1, z.1, z.2))) (fun z => K (.inr (u0, u1, u2, z)))) := by
  intro l
  induction l with
  | nil =>
    intro i  n hd hn
    have hge := va6 hd
    cases n with
    | zero => exact absurd hn (Nat.not_lt_zero _)
    | succ n => simp only [vah, vjl, vip, hge, decide_false, cond_false, Sum.elim_inr, Sum.elim_inl]
  | cons y l ih =>
    intro i  n hd hn
    obtain ⟨hlt, hz, hd2, hw, hnn⟩ := vay hd h0
    have hy := vaw hd
    cases n with
    | zero => exact absurd hn (Nat.not_lt_zero _)
    | succ n =>
      have ih2 := ih (i + 1)  n hd2 (Nat.lt_of_succ_lt_succ hn)
      simp only [vah, vjl, vip, hlt, hz, decide_true, cond_true, and_self, if_true, hy, hw, hnn, Sum.elim_inl, Sum.elim_inr, ih2]
theorem wnk {u0} {u1} {u2} (h0 : u0.length < 9223372036854775807) {K : (q5T ⊕ q5T) → Option Res}  : vah vjl Fuel (u0, u1, u2, (0 : Int)) K = vip u0 u1 u2 u0  0 (Sum.elim (fun z => K (.inl (u0, u1, z.1, z.2))) (fun z => K (.inr (u0, u1, u2, z)))) :=
  wm3 h0 u0 0  Fuel rfl (vaz h0)
def wdp (a0 : (List dTxn)) (a1 : (List dTxn)) (k : Bool → Option Res) : Option Res :=
  bif ((a0.length : Int) != (a1.length : Int)) then
    k false
  else
    vip a0 a1 false a0  0 (Sum.elim (fun z23 =>
      k z23.1) (fun _ =>
      k true))
theorem wsv {a0 : (List dTxn)} {a1 : (List dTxn)} (h0 : a0.length < 9223372036854775807) {k : Bool → Option Res} : vo6 a0 a1 k = wdp a0 a1 k := by
  rw [wjr]
  simp only [wes, wdp, (wnk h0), Sum.elim_inl, Sum.elim_inr]
def vj7 (u0 : (List vac)) (u2 : Int) : List vac → Int → Nat → (((Int × Int × Int) ⊕ (Int × Int)) → Option Res) → Option Res
  | [], s1, i, k =>
    k (.inr (s1, (i : Int)))
  | y :: l, s1, i, k =>
    vck s1 (fun y1 =>
      bif (!(vbd (y.1) y1)) then
        k (.inl (s1, (-1 : Int), (i : Int)))
      else
        vck (IntKind.wrap .i64 (s1 + (1 : Int))) (fun y2 =>
          bif (!(vbd (y.2.1) y2)) then
            k (.inl ((IntKind.wrap .i64 (s1 + (1 : Int))), (-1 : Int), (i : Int)))
          else
            bif (!(y.2.2.1 == (((IntKind.wrap .i64 ((IntKind.wrap .i64 (s1 + (1 : Int))) + (1 : Int))).tmod (3 : Int)) == (0 : Int)))) then
              k (.inl ((IntKind.wrap .i64 ((IntKind.wrap .i64 (s1 + (1 : Int))) + (1 : Int))), (-1 : Int), (i : Int)))
            else
              bif (y.2.2.2 != (IntKind.wrap .i64 ((IntKind.wrap .i64 ((IntKind.wrap .i64 (s1 + (1 : Int))) + (1 : Int))) + (1 : Int)))) then
                k (.inl ((IntKind.wrap .i64 ((IntKind.wrap .i64 ((IntKind.wrap .i64 (s1 + (1 : Int))) + (1 : Int))) + (1 : Int))), (-1 : Int), (i : Int)))
              else
                vj7 u0 u2 l (IntKind.wrap .i64 ((IntKind.wrap .i64 ((IntKind.wrap .i64 ((IntKind.wrap .i64 (s1 + (1 : Int))) + (1 : Int))) + (1 : Int))) + (1 : Int))) (i + 1) k))
theorem wm1 {u0} {u2} (h0 : u0.length < 9223372036854775807) {K : (q15T ⊕ q15T) → Option Res} : ∀ (l : List vac) (i : Nat) (s1 : Int) (n : Nat), u0.drop i = l → l.length < n → vah vj6 n (u0, s1, u2, (i : Int)) K = vj7 u0 u2 l s1 i (Sum.elim (fun z => K (.inl (u0, z.1, z.2.1, z.2.2))) (fun z => K (.inr (u0, z.1, u2, z.2)))) := by
  intro l
  induction l with
  | nil =>
    intro i s1 n hd hn
    have hge := va6 hd
    cases n with
    | zero => exact absurd hn (Nat.not_lt_zero _)
    | succ n => simp only [vah, vj6, vj7, hge, decide_false, cond_false, Sum.elim_inr, Sum.elim_inl]
  | cons y l ih =>
    intro i s1 n hd hn
    obtain ⟨hlt, hz, hd2, hw, hnn⟩ := vay hd h0
    have hy := vaw hd
    cases n with
    | zero => exact absurd hn (Nat.not_lt_zero _)
    | succ n =>
      have ih2 := fun (s1 : Int) => ih (i + 1) s1 n hd2 (Nat.lt_of_succ_lt_succ hn)
      simp only [vah, vj6, vj7, hlt, hz, decide_true, cond_true, and_self, if_true, hy, hw, hnn, Sum.elim_inl, Sum.elim_inr, ih2]
theorem wr7 {u0} {u2} (h0 : u0.length < 9223372036854775807) {K : (q15T ⊕ q15T) → Option Res} {s1 : Int} : vah vj6 Fuel (u0, s1, u2, (0 : Int)) K = vj7 u0 u2 u0 s1 0 (Sum.elim (fun z => K (.inl (u0, z.1, z.2.1, z.2.2))) (fun z => K (.inr (u0, z.1, u2, z.2)))) :=
  wm1 h0 u0 0 s1 Fuel rfl (vaz h0)
def wg6 (a0 : (List vac)) (a1 : Int) (k : Int → Option Res) : Option Res :=
  vj7 a0 (0 : Int) a0 a1 0 (Sum.elim (fun z23 =>
    k z23.2.1) (fun z24 =>
    k z24.1))
theorem wyo {a0 : (List vac)} {a1 : Int} (h0 : a0.length < 9223372036854775807) {k : Int → Option Res} : vvt a0 a1 k = wg6 a0 a1 k := by
  rw [wl7]
  simp only [wdt, wg6, (wr7 h0), Sum.elim_inl, Sum.elim_inr]
def vkm (u0 : (List van)) (u2 : Int) : List van → Int → Nat → (((Int × Int × Int) ⊕ (Int × Int)) → Option Res) → Option Res
  | [], s1, i, k =>
    k (.inr (s1, (i : Int)))
  | y :: l, s1, i, k =>
    vck s1 (fun y1 =>
      bif (!(vbd (y.1) y1)) then
        k (.inl (s1, (-1 : Int), (i : Int)))
      else
        vck (IntKind.wrap .i64 (s1 + (1 : Int))) (fun y2 =>
          bif (!(vbd (y.2) y2)) then
            k (.inl ((IntKind.wrap .i64 (s1 + (1 : Int))), (-1 : Int), (i : Int)))
          else
            vkm u0 u2 l (IntKind.wrap .i64 ((IntKind.wrap .i64 (s1 + (1 : Int))) + (1 : Int))) (i + 1) k))
theorem wnp {u0} {u2} (h0 : u0.length < 9223372036854775807) {K : (q4T ⊕ q4T) → Option Res} : ∀ (l : List van) (i : Nat) (s1 : Int) (n : Nat), u0.drop i = l → l.length < n → vah vkt n (u0, s1, u2, (i : Int)) K = vkm u0 u2 l s1 i (Sum.elim (fun z => K (.inl (u0, z.1, z.2.1, z.2.2))) (fun z => K (.inr (u0, z.1, u2, z.2)))) := by
  intro l
  induction l with
  | nil =>
    intro i s1 n hd hn
    have hge := va6 hd
    cases n with
    | zero => exact absurd hn (Nat.not_lt_zero _)
    | succ n => simp only [vah, vkt, vkm, hge, decide_false, cond_false, Sum.elim_inr, Sum.elim_inl]
  | cons y l ih =>
    intro i s1 n hd hn
    obtain ⟨hlt, hz, hd2, hw, hnn⟩ := vay hd h0
    have hy := vaw hd
    cases n with
    | zero => exact absurd hn (Nat.not_lt_zero _)
    | succ n =>
      have ih2 := fun (s1 : Int) => ih (i + 1) s1 n hd2 (Nat.lt_of_succ_lt_succ hn)
      simp only [vah, vkt, vkm, hlt, hz, decide_true, cond_true, and_self, if_true, hy, hw, hnn, Sum.elim_inl, Sum.elim_inr, ih2]
theorem wqw {u0} {u2} (h0 : u0.length < 9223372036854775807) {K : (q4T ⊕ q4T) → Option Res} {s1 : Int} : vah vkt Fuel (u0, s1, u2, (0 : Int)) K = vkm u0 u2 u0 s1 0 (Sum.elim (fun z => K (.inl (u0, z.1, z.2.1, z.2.2))) (fun z => K (.inr (u0, z.1, u2, z.2)))) :=
  wnp h0 u0 0 s1 Fuel rfl (vaz h0)
def wme (a0 : (List van)) (a1 : Int) (k : Int → Option Res) : Option Res :=
  vkm a0 (0 : Int) a0 a1 0 (Sum.elim (fun z23 =>
    k z23.2.1) (fun z24 =>
    k z24.1))
theorem w0e {a0 : (List van)} {a1 : Int} (h0 : a0.length < 9223372036854775807) {k : Int → Option Res} : vtr a0 a1 k = wme a0 a1 k := by
  rw [wh5]
  simp only [wdv, wme, (wqw h0), Sum.elim_inl, Sum.elim_inr]
def vk5 (u0 : (List vaj)) (u2 : Int) : List vaj → Int → Nat → (((Int × Int × Int) ⊕ (Int × Int)) → Option Res) → Option Res
  | [], s1, i, k =>
    k (.inr (s1, (i : Int)))
  | y :: l, s1, i, k =>
    vck s1 (fun y1 =>
      bif (!(vbd (y.1) y1)) then
        k (.inl (s1, (-1 : Int), (i : Int)))
      else
        vck (IntKind.wrap .i64 (s1 + (1 : Int))) (fun y2 =>
          bif (!(vbd (y.2.1) y2)) then
            k (.inl ((IntKind.wrap .i64 (s1 + (1 : Int))), (-1 : Int), (i : Int)))
          else
            bif (!(y.2.2 == (((IntKind.wrap .i64 ((IntKind.wrap .i64 (s1 + (1 : Int))) + (1 : Int))).tmod (3 : Int)) == (0 : Int)))) then
              k (.inl ((IntKind.wrap .i64 ((IntKind.wrap .i64 (s1 + (1 : Int))) + (1 : Int))), (-1 : Int), (i : Int)))
            else
              vk5 u0 u2 l (IntKind.wrap .i64 ((IntKind.wrap .i64 ((IntKind.wrap .i64 (s1 + (1 : Int))) + (1 : Int))) + (1 : Int))) (i + 1) k))
theorem wql {u0} {u2} (h0 : u0.length < 9223372036854775807) {K : (q19T ⊕ q19T) → Option Res} : ∀ (l : List vaj) (i : Nat) (s1 : Int) (n : Nat), u0.drop i = l → l.length < n → vah vjh n (u0, s1, u2, (i : Int)) K = vk5 u0 u2 l s1 i (Sum.elim (fun z => K (.inl (u0, z.1, z.2.1, z.2.2))) (fun z => K (.inr (u0, z.1, u2, z.2)))) := by
  intro l
  induction l with
  | nil =>
    intro i s1 n hd hn
    have hge := va6 hd
    cases n with
    | zero => exact absurd hn (Nat.not_lt_zero _)
    | succ n => simp only [vah, vjh, vk5, hge, decide_false, cond_false, Sum.elim_inr, Sum.elim_inl]
  | cons y l ih =>
    intro i s1 n hd hn
    obtain ⟨hlt, hz, hd2, hw, hnn⟩ := vay hd h0
    have hy := vaw hd
    cases n with
    | zero => exact absurd hn (Nat.not_lt_zero _)
    | succ n =>
      have ih2 := fun (s1 : Int) => ih (i + 1) s1 n hd2 (Nat.lt_of_succ_lt_succ hn)
      simp only [vah, vjh, vk5, hlt, hz, decide_true, cond_true, and_self, if_true, hy, hw, hnn, Sum.elim_inl, Sum.elim_inr, ih2]
theorem wow {u0} {u2} (h0 : u0.length < 9223372036854775807) {K : (q19T ⊕ q19T) → Option Res} {s1 : Int} : vah vjh Fuel (u0, s1, u2, (0 : Int)) K = vk5 u0 u2 u0 s1 0 (Sum.elim (fun z => K (.inl (u0, z.1, z.2.1, z.2.2))) (fun z => K (.inr (u0, z.1, u2, z.2)))) :=
  wql h0 u0 0 s1 Fuel rfl (vaz h0)
def wi4 (a0 : (List vaj)) (a1 : Int) (k : Int → Option Res) : Option Res :=
  vk5 a0 (0 : Int) a0 a1 0 (Sum.elim (fun z23 =>
    k z23.2.1) (fun z24 =>
    k z24.1))
theorem wyd {a0 : (List vaj)} {a1 : Int} (h0 : a0.length < 9223372036854775807) {k : Int → Option Res} : vtm a0 a1 k = wi4 a0 a1 k := by
  rw [wle]
  simp only [wdd, wi4, (wow h0), Sum.elim_inl, Sum.elim_inr]
def vk6 (u0 : (List dTxn)) (u2 : Int) : List dTxn → Int → Nat → (((Int × Int × Int) ⊕ (Int × Int)) → Option Res) → Option Res
  | [], s1, i, k =>
    k (.inr (s1, (i : Int)))
  | y :: l, s1, i, k =>
    bif (y.1 != s1) then
      k (.inl (s1, (-1 : Int), (i : Int)))
    else
      bif (y.2.1 != (IntKind.wrap .i64 (s1 + (1 : Int)))) then
        k (.inl ((IntKind.wrap .i64 (s1 + (1 : Int))), (-1 : Int), (i : Int)))
      else
        bif (y.2.2.1 != (IntKind.wrap .i64 ((IntKind.wrap .i64 (s1 + (1 : Int))) + (1 : Int)))) then
          k (.inl ((IntKind.wrap .i64 ((IntKind.wrap .i64 (s1 + (1 : Int))) + (1 : Int))), (-1 : Int), (i : Int)))
        else
          bif (y.2.2.2.1 != (IntKind.wrap .i64 ((IntKind.wrap .i64 ((IntKind.wrap .i64 (s1 + (1 : Int))) + (1 : Int))) + (1 : Int)))) then
            k (.inl ((IntKind.wrap .i64 ((IntKind.wrap .i64 ((IntKind.wrap .i64 (s1 + (1 : Int))) + (1 : Int))) + (1 : Int))), (-1 : Int), (i : Int)))
          else
            vtr y.2.2.2.2.1 (IntKind.wrap .i64 ((IntKind.wrap .i64 ((IntKind.wrap .i64 ((IntKind.wrap .i64 (s1 + (1 : Int))) + (1 : Int))) + (1 : Int))) + (1 : Int))) (fun y1 =>
              bif (decide (y1 < (0 : Int))) then
                k (.inl (y1, (-1 : Int), (i : Int)))
              else
                vtm y.2.2.2.2.2.1 y1 (fun y2 =>
                  bif (decide (y2 < (0 : Int))) then
                    k (.inl (y2, (-1 : Int), (i : Int)))
                  else
                    bif (!(y.2.2.2.2.2.2.1 == ((y2.tmod (3 : Int)) == (0 : Int)))) then
                      k (.inl (y2, (-1 : Int), (i : Int)))
                    else
                      vck (IntKind.wrap .i64 (y2 + (1 : Int))) (fun y3 =>
                        bif (!(vbd (y.2.2.2.2.2.2.2) y3)) then
                          k (.inl ((IntKind.wrap .i64 (y2 + (1 : Int))), (-1 : Int), (i : Int)))
                        else
                          vk6 u0 u2 l (IntKind.wrap .i64 ((IntKind.wrap .i64 (y2 + (1 : Int))) + (1 : Int))) (i + 1) k)))
theorem wqu {u0} {u2} (h0 : u0.length < 9223372036854775807) {K : (q10T ⊕ q10T) → Option Res} : ∀ (l : List dTxn) (i : Nat) (s1 : Int) (n : Nat), u0.drop i = l → l.length < n → vah vkw n (u0, s1, u2, (i : Int)) K = vk6 u0 u2 l s1 i (Sum.elim (fun z => K (.inl (u0, z.1, z.2.1, z.2.2))) (fun z => K (.inr (u0, z.1, u2, z.2)))) := by
  intro l
  induction l with
  | nil =>
    intro i s1 n hd hn
    have hge := va6 hd
    cases n with
    | zero => exact absurd hn (Nat.not_lt_zero _)
    | succ n => simp only [vah, vkw, vk6, hge, decide_false, cond_false, Sum.elim_inr, Sum.elim_inl]
  | cons y l ih =>
    intro i s1 n hd hn
    obtain ⟨hlt, hz, hd2, hw, hnn⟩ := vay hd h0
    have hy := vaw hd
    cases n with
    | zero => exact absurd hn (Nat.not_lt_zero _)
    | succ n =>
      have ih2 := fun (s1 : Int) => ih (i + 1) s1 n hd2 (Nat.lt_of_succ_lt_succ hn)
      simp only [vah, vkw, vk6, hlt, hz, decide_true, cond_true, and_self, if_true, hy, hw, hnn, Sum.elim_inl, Sum.elim_inr, ih2]
theorem wq9 {u0} {u2} (h0 : u0.length < 9223372036854775807) {K : (q10T ⊕ q10T) → Option Res} {s1 : Int} : vah vkw Fuel (u0, s1, u2, (0 : Int)) K = vk6 u0 u2 u0 s1 0 (Sum.elim (fun z => K (.inl (u0, z.1, z.2.1, z.2.2))) (fun z => K (.inr (u0, z.1, u2, z.2)))) :=
  wqu h0 u0 0 s1 Fuel rfl (vaz h0)
def wfx (a0 : (List dTxn)) (a1 : Int) (k : Int → Option Res) : Option Res :=
  vk6 a0 (0 : Int) a0 a1 0 (Sum.elim (fun z23 =>
    k z23.2.1) (fun z24 =>
    k z24.1))
theorem wx1 {a0 : (List dTxn)} {a1 : Int} (h0 : a0.length < 9223372036854775807) {k : Int → Option Res} : vre a0 a1 k = wfx a0 a1 k := by
  rw [wjh]
  simp only [wab, wfx, (wq9 h0), Sum.elim_inl, Sum.elim_inr]
def vgq (u0 : Bool) (u1 : Int) (u2 : Int) (u3 : Int) (u4 : (List vac)) (u5 : (List dTxn)) (u6 : (List dTxn)) (u7 : (List dTxn)) (k : Bool → Option Res) : Option Res :=
    vom ((u4, (u5, (u6, (u2, u3)))), u7) (1 : Int) (fun y1 =>
      bif (decide (y1 < (0 : Int))) then
        k false
      else
        bif (y1 != u1) then
          k false
        else
          k true)
theorem vxi {u0} {u1} {u2} {u3} {u4} {u5} {u6} {u7}  {K : q35T → Option Res} : vc4 (u0, u1, u2, u3, u4, u5, u6, u7) K = vgq u0 u1 u2 u3 u4 u5 u6 u7 (fun z => K (z, u1, u2, u3, u4, u5, u6, u7)) := by
  simp only [vc4, vgq, Sum.elim_inl, Sum.elim_inr]
def vgk (u0 : Bool) (u1 : Int) (u2 : Int) (u3 : (List vac)) (u4 : (List dTxn)) (u5 : (List dTxn)) (u6 : Int) (u7 : Int) (u8 : (List dTxn)) (u9 : Int) (u10 : Int) (u11 : Int) (u12 : Int) (u13 : (List vac)) (u14 : (List dTxn)) (u15 : (List dTxn)) (u16 : (List dTxn)) (u17 : (List vac)) (u18 : (List dTxn)) (u19 : (List dTxn)) (u20 : (List dTxn)) (k : (q23T ⊕ q23T) → Option Res) : Option Res :=
    vn3 u11 u12 (1 : Int) u17 u18 u19 u20 (fun y1 =>
      vom ((y1.2.1, (y1.2.2.1, (y1.2.2.2.1, (u11, u12)))), y1.2.2.2.2) (1 : Int) (fun y2 =>
        bif (decide (y2 < (0 : Int))) then
          k (.inl (false, y1.2.1, y1.2.2.1, y1.2.2.2.1, y1.2.2.2.2))
        else
          bif (y2 != y1.1) then
            k (.inl (false, y1.2.1, y1.2.2.1, y1.2.2.2.1, y1.2.2.2.2))
          else
            via ((u3, (u4, (u5, (u6, u7)))), u8) (fun y3 =>
              vrd ((y3.2.2.1, (y3.2.2.2.1, (y3.2.2.2.2.1, (y3.1, y3.2.1)))), y3.2.2.2.2.2) (fun y4 =>
                vhq ((y4.2.2.2.2.1, (y4.2.2.2.2.2.1, (y4.2.2.2.2.2.2.1, (y4.1, y4.2.1)))), y4.2.2.2.2.2.2.2) ((u13, (u14, (u15, (u9, u10)))), u16) (fun y5 =>
                  bif (!y5) then
                    k (.inl (false, y1.2.1, y1.2.2.1, y1.2.2.2.1, y1.2.2.2.2))
                  else
                    bif (y4.2.2.1 != u1) then
                      k (.inl (false, y1.2.1, y1.2.2.1, y1.2.2.2.1, y1.2.2.2.2))
                    else
                      bif (y4.2.2.2.1 != u2) then
                        k (.inl (false, y1.2.1, y1.2.2.1, y1.2.2.2.1, y1.2.2.2.2))
                      else
                        vgq u0 y1.1 u11 u12 y1.2.1 y1.2.2.1 y1.2.2.2.1 y1.2.2.2.2 (fun z6 =>
                          k (.inr (z6, y1.2.1, y1.2.2.1, y1.2.2.2.1, y1.2.2.2.2))))))))
theorem vxw {u0} {u1} {u2} {u3} {u4} {u5} {u6} {u7} {u8} {u9} {u10} {u11} {u12} {u13} {u14} {u15} {u16} {u17} {u18} {u19} {u20}  {K : (q34T ⊕ q31T) → Option Res} : vcy (u0, u1, u2, u3, u4, u5, u6, u7, u8, u9, u10, u11, u12, u13, u14, u15, u16, u17, u18, u19, u20) K = vgk u0 u1 u2 u3 u4 u5 u6 u7 u8 u9 u10 u11 u12 u13 u14 u15 u16 u17 u18 u19 u20 (Sum.elim (fun z => K (.inl (z.1, u1, u2, u3, u4, u5, u6, u7, u8, u9, u10, u11, u12, u13, u14, u15, u16, z.2.1, z.2.2.1, z.2.2.2.1, z.2.2.2.2))) (fun z => K (.inr (z.1, u11, u12, z.2.1, z.2.2.1, z.2.2.2.1, z.2.2.2.2)))) := by
  simp only [vcy, vgk, vxi, Sum.elim_inl, Sum.elim_inr]
def vf8 (u0 : Bool) (u1 : Int) (u2 : Int) (u3 : Int) (u4 : Int) (u5 : (List vac)) (u6 : (List dTxn)) (u7 : (List dTxn)) (u8 : Int) (u9 : Int) (u10 : (List dTxn)) (u11 : Int) (u12 : Int) (u13 : Int) (u14 : Int) (u15 : Int) (u16 : Int) (u17 : (List vac)) (u18 : (List dTxn)) (u19 : (List dTxn)) (u20 : (List dTxn)) (u21 : (List vac)) (u22 : (List dTxn)) (u23 : (List dTxn)) (u24 : (List dTxn)) (u25 : (List vac)) (u26 : (List dTxn)) (u27 : (List dTxn)) (u28 : (List dTxn)) (k : (q23T ⊕ (q23T ⊕ q23T)) → Option Res) : Option Res :=
    via ((u5, (u6, (u7, (u8, u9)))), u10) (fun y1 =>
      vhq ((u21, (u22, (u23, (u13, u14)))), u24) ((y1.2.2.1, (y1.2.2.2.1, (y1.2.2.2.2.1, (y1.1, y1.2.1)))), y1.2.2.2.2.2) (fun y2 =>
        bif (!y2) then
          k (.inl (false, u21, u22, u23, u24))
        else
          vn3 u13 u14 (1 : Int) u21 u22 u23 u24 (fun y3 =>
            bif (decide (y3.1 < (0 : Int))) then
              k (.inl (false, y3.2.1, y3.2.2.1, y3.2.2.2.1, y3.2.2.2.2))
            else
              vhq ((u25, (u26, (u27, (u15, u16)))), u28) ((u17, (u18, (u19, (u11, u12)))), u20) (fun y4 =>
                bif (!y4) then
                  k (.inl (false, y3.2.1, y3.2.2.1, y3.2.2.2.1, y3.2.2.2.2))
                else
                  bif (u3 != u1) then
                    k (.inl (false, y3.2.1, y3.2.2.1, y3.2.2.2.1, y3.2.2.2.2))
                  else
                    bif (u4 != u2) then
                      k (.inl (false, y3.2.1, y3.2.2.1, y3.2.2.2.1, y3.2.2.2.2))
                    else
                      vgk u0 u1 u2 u5 u6 u7 u8 u9 u10 u11 u12 u15 u16 u17 u18 u19 u20 u25 u26 u27 u28 (Sum.elim (fun z5 =>
                        k (.inr (.inl (z5.1, z5.2.1, z5.2.2.1, z5.2.2.2.1, z5.2.2.2.2)))) (fun z6 =>
                        k (.inr (.inr (z6.1, z6.2.1, z6.2.2.1, z6.2.2.2.1, z6.2.2.2.2)))))))))
theorem vxo {u0} {u1} {u2} {u3} {u4} {u5} {u6} {u7} {u8} {u9} {u10} {u11} {u12} {u13} {u14} {u15} {u16} {u17} {u18} {u19} {u20} {u21} {u22} {u23} {u24} {u25} {u26} {u27} {u28}  {K : (q37T ⊕ (q34T ⊕ q31T)) → Option Res} : vc6 (u0, u1, u2, u3, u4, u5, u6, u7, u8, u9, u10, u11, u12, u13, u14, u15, u16, u17, u18, u19, u20, u21, u22, u23, u24, u25, u26, u27, u28) K = vf8 u0 u1 u2 u3 u4 u5 u6 u7 u8 u9 u10 u11 u12 u13 u14 u15 u16 u17 u18 u19 u20 u21 u22 u23 u24 u25 u26 u27 u28 (Sum.elim (fun z => K (.inl (z.1, u1, u2, u3, u4, u5, u6, u7, u8, u9, u10, u11, u12, u13, u14, u15, u16, u17, u18, u19, u20, z.2.1, z.2.2.1, z.2.2.2.1, z.2.2.2.2, u25, u26, u27, u28))) (Sum.elim (fun z => K (.inr (.inl (z.1, u1, u2, u5, u6, u7, u8, u9, u10, u11, u12, u15, u16, u17, u18, u19, u20, z.2.1, z.2.2.1, z.2.2.2.1, z.2.2.2.2)))) (fun z => K (.inr (.inr (z.1, u15, u16, z.2.1, z.2.2.1, z.2.2.2.1, z.2.2.2.2)))))) := by
  simp only [vc6, vf8, vxw, Sum.elim_inl, Sum.elim_inr]
def wiq (a0 : va7) (k : Bool → Option Res) : Option Res :=
  vun a0 (1048576 : Int) (fun y23 =>
    bif (decide (y23 < (0 : Int))) then
      k true
    else
      via a0 (fun y24 =>
        vv2 ((y24.2.2.1, (y24.2.2.2.1, (y24.2.2.2.2.1, (y24.1, y24.2.1)))), y24.2.2.2.2.2) (fun y25 =>
          via a0 (fun y26 =>
            vrd ((y26.2.2.1, (y26.2.2.2.1, (y26.2.2.2.2.1, (y26.1, y26.2.1)))), y26.2.2.2.2.2) (fun y27 =>
              vhq ((y27.2.2.2.2.1, (y27.2.2.2.2.2.1, (y27.2.2.2.2.2.2.1, (y27.1, y27.2.1)))), y27.2.2.2.2.2.2.2) ((y25.2.2.2.2.1, (y25.2.2.2.2.2.1, (y25.2.2.2.2.2.2.1, (y25.1, y25.2.1)))), y25.2.2.2.2.2.2.2) (fun y28 =>
                bif (!y28) then
                  k false
                else
                  bif (y27.2.2.1 != y25.2.2.1) then
                    k false
                  else
                    bif (y27.2.2.2.1 != y25.2.2.2.1) then
                      k false
                    else
                      vf8 false y25.2.2.1 y25.2.2.2.1 y27.2.2.1 y27.2.2.2.1 a0.1.1 a0.1.2.1 a0.1.2.2.1 a0.1.2.2.2.1 a0.1.2.2.2.2 a0.2 y25.1 y25.2.1 y26.1 y26.2.1 y27.1 y27.2.1 y25.2.2.2.2.1 y25.2.2.2.2.2.1 y25.2.2.2.2.2.2.1 y25.2.2.2.2.2.2.2 y26.2.2.1 y26.2.2.2.1 y26.2.2.2.2.1 y26.2.2.2.2.2 y27.2.2.2.2.1 y27.2.2.2.2.2.1 y27.2.2.2.2.2.2.1 y27.2.2.2.2.2.2.2 (Sum.elim (fun z29 =>
                        k z29.1) (Sum.elim (fun z30 =>
                        k z30.1) (fun z31 =>
                        k z31.1)))))))))
theorem wyt {a0 : va7}  {k : Bool → Option Res} : v0j a0 k = wiq a0 k := by
  rw [wf3]
  simp only [wej, wiq, vxo, Sum.elim_inl, Sum.elim_inr]
end
end Go.VE
