/- Loops told as recursions over what is left; written by gen.py. -/
import Derived.Test.YtpmahbmokfaflaaReadBaseN
import Derived.Test.YtpmahbmokfaflaaP1
namespace Go.VE
noncomputable section
set_option linter.unusedVariables false
set_option linter.unusedSimpArgs false
set_option maxRecDepth 100000
def vnl (u0 : ByteArray) (u1 : Bool) : List Int → Nat → (((Bool × Int) ⊕ Int) → Option Res) → Option Res
  | [], i, k =>
    k (.inr (i : Int))
  | y :: l, i, k =>
    bif (decide (y < (97 : Int))) then
      k (.inl (false, (i : Int)))
    else
      bif (decide (y > (122 : Int))) then
        k (.inl (false, (i : Int)))
      else
        vnl u0 u1 l (i + 1) k
theorem wqp {u0} {u1} (h0 : u0.size < 9223372036854775807) {K : ((ByteArray × Bool × Int) ⊕ (ByteArray × Bool × Int)) → Option Res} : ∀ (l : List Int) (i : Nat)  (n : Nat), (va7 u0).drop i = l → l.length < n → vai vls n (u0, u1, (i : Int)) K = vnl u0 u1 l  i (Sum.elim (fun z => K (.inl (u0, z.1, z.2))) (fun z => K (.inr (u0, u1, z)))) := by
  intro l
  induction l with
  | nil =>
    intro i  n hd hn
    have hge := v2z hd
    cases n with
    | zero => exact absurd hn (Nat.not_lt_zero _)
    | succ n => simp only [vai, vls, vnl, hge, decide_false, cond_false, Sum.elim_inr, Sum.elim_inl]
  | cons y l ih =>
    intro i  n hd hn
    obtain ⟨hlt, hz, hd2, hw, hnn⟩ := wfa hd h0
    have hy := v77 hd
    cases n with
    | zero => exact absurd hn (Nat.not_lt_zero _)
    | succ n =>
      have ih2 := ih (i + 1)  n hd2 (Nat.lt_of_succ_lt_succ hn)
      simp only [vai, vls, vnl, hlt, hz, decide_true, cond_true, and_self, if_true, hy, hw, hnn, Sum.elim_inl, Sum.elim_inr, ih2]
theorem wqv {u0} {u1} (h0 : u0.size < 9223372036854775807) {K : ((ByteArray × Bool × Int) ⊕ (ByteArray × Bool × Int)) → Option Res}  : vai vls Fuel (u0, u1, (0 : Int)) K = vnl u0 u1 (va7 u0)  0 (Sum.elim (fun z => K (.inl (u0, z.1, z.2))) (fun z => K (.inr (u0, u1, z)))) :=
  wqp h0 (va7 u0) 0  Fuel rfl (weu h0)
def whs (a0 : ByteArray) (k : Bool → Option Res) : Option Res :=
  vnl a0 false (va7 a0)  0 (Sum.elim (fun z24 =>
    k z24.1) (fun _ =>
    vdx (a0.size : Int) (1 : Int) (3 : Int) (fun y26 =>
      k y26)))
theorem wx7 {a0 : ByteArray} (h0 : a0.size < 9223372036854775807) {k : Bool → Option Res} : vjz a0 k = whs a0 k := by
  rw [wi9]
  simp only [wem, whs, (wqv h0), Sum.elim_inl, Sum.elim_inr]
def vl0 (u0 : (List vam)) (u1 : Bool) : List vam → Nat → (((Bool × Int) ⊕ Int) → Option Res) → Option Res
  | [], i, k =>
    k (.inr (i : Int))
  | y :: l, i, k =>
    vxy y (fun y1 =>
      bif (!y1) then
        k (.inl (false, (i : Int)))
      else
        bif (decide ((i : Int) > (0 : Int))) then
          if 0 ≤ (IntKind.wrap .i64 ((i : Int) - (1 : Int))) ∧ (IntKind.wrap .i64 ((i : Int) - (1 : Int))) < (u0.length : Int) then
            bif (!(va2 ((rd (Ty.zero tWrite) u0 (IntKind.wrap .i64 ((i : Int) - (1 : Int)))).1) (y.1))) then
              k (.inl (false, (i : Int)))
            else
              vl0 u0 u1 l (i + 1) k
          else none
        else
          vl0 u0 u1 l (i + 1) k)
theorem wql {u0} {u1} (h0 : u0.length < 9223372036854775807) {K : (((List vam) × Bool × Int) ⊕ ((List vam) × Bool × Int)) → Option Res} : ∀ (l : List vam) (i : Nat)  (n : Nat), u0.drop i = l → l.length < n → vai vlh n (u0, u1, (i : Int)) K = vl0 u0 u1 l  i (Sum.elim (fun z => K (.inl (u0, z.1, z.2))) (fun z => K (.inr (u0, u1, z)))) := by
  intro l
  induction l with
  | nil =>
    intro i  n hd hn
    have hge := vcd hd
    cases n with
    | zero => exact absurd hn (Nat.not_lt_zero _)
    | succ n => simp only [vai, vlh, vl0, hge, decide_false, cond_false, Sum.elim_inr, Sum.elim_inl]
  | cons y l ih =>
    intro i  n hd hn
    obtain ⟨hlt, hz, hd2, hw, hnn⟩ := vbt hd h0
    have hy := va8 hd
    cases n with
    | zero => exact absurd hn (Nat.not_lt_zero _)
    | succ n =>
      have ih2 := ih (i + 1)  n hd2 (Nat.lt_of_succ_lt_succ hn)
      simp only [vai, vlh, vl0, hlt, hz, decide_true, cond_true, and_self, if_true, hy, hw, hnn, Sum.elim_inl, Sum.elim_inr, ih2]
theorem wo0 {u0} {u1} (h0 : u0.length < 9223372036854775807) {K : (((List vam) × Bool × Int) ⊕ ((List vam) × Bool × Int)) → Option Res}  : vai vlh Fuel (u0, u1, (0 : Int)) K = vl0 u0 u1 u0  0 (Sum.elim (fun z => K (.inl (u0, z.1, z.2))) (fun z => K (.inr (u0, u1, z)))) :=
  wql h0 u0 0  Fuel rfl (vby h0)
def wkj (a0 : (List vam)) (k : Bool → Option Res) : Option Res :=
  vl0 a0 false a0  0 (Sum.elim (fun z24 =>
    k z24.1) (fun _ =>
    k (decide ((a0.length : Int) ≤ (8 : Int)))))
theorem wzf {a0 : (List vam)} (h0 : a0.length < 9223372036854775807) {k : Bool → Option Res} : vve a0 k = wkj a0 k := by
  rw [wio]
  simp only [wfe, wkj, (wo0 h0), Sum.elim_inl, Sum.elim_inr]
def vcu (u0 : Bool) (u1 : Int) (u2 : Int) (u3 : Int) (u4 : Int) (u5 : (List van)) (u6 : (List vam)) (u7 : Bool) (u8 : ByteArray) (k : Bool → Option Res) : Option Res :=
    bif (u2 != (1 : Int)) then
      k true
    else
      k (!u7)
theorem v0i {u0} {u1} {u2} {u3} {u4} {u5} {u6} {u7} {u8}  {K : q25T → Option Res} : vb8 (u0, u1, u2, u3, u4, u5, u6, u7, u8) K = vcu u0 u1 u2 u3 u4 u5 u6 u7 u8 (fun z => K (z, u1, u2, u3, u4, u5, u6, u7, u8)) := by
  simp only [vb8, vcu, Sum.elim_inl, Sum.elim_inr]
def vcx (u0 : Bool) (u1 : Int) (u2 : Int) (u3 : Int) (u4 : Int) (u5 : (List van)) (u6 : (List vam)) (u7 : Bool) (u8 : ByteArray) (k : Bool → Option Res) : Option Res :=
    bif (u2 == (2 : Int)) then
      vjz u8 (fun y1 =>
        bif (!y1) then
          k false
        else
          bif (u2 != (2 : Int)) then
            bif (!(va9 u8 (⟨#[]⟩ : ByteArray))) then
              k false
            else
              vcu u0 u1 u2 u3 u4 u5 u6 u7 u8 (fun z2 =>
                k z2)
          else
            vcu u0 u1 u2 u3 u4 u5 u6 u7 u8 (fun z3 =>
              k z3))
    else
      bif (u2 != (2 : Int)) then
        bif (!(va9 u8 (⟨#[]⟩ : ByteArray))) then
          k false
        else
          vcu u0 u1 u2 u3 u4 u5 u6 u7 u8 (fun z4 =>
            k z4)
      else
        vcu u0 u1 u2 u3 u4 u5 u6 u7 u8 (fun z5 =>
          k z5)
theorem vzq {u0} {u1} {u2} {u3} {u4} {u5} {u6} {u7} {u8}  {K : q25T → Option Res} : vb5 (u0, u1, u2, u3, u4, u5, u6, u7, u8) K = vcx u0 u1 u2 u3 u4 u5 u6 u7 u8 (fun z => K (z, u1, u2, u3, u4, u5, u6, u7, u8)) := by
  simp only [vb5, vcx, v0i, Sum.elim_inl, Sum.elim_inr]
def vne (u0 : Bool) (u2 : Int) (u3 : Int) (u4 : Int) (u5 : Int) (u6 : (List van)) (u7 : (List vam)) (u8 : Bool) (u9 : ByteArray) : List van → Nat → (((Bool × Int) ⊕ Int) → Option Res) → Option Res
  | [], i, k =>
    k (.inr (i : Int))
  | y :: l, i, k =>
    vxq y (fun y1 =>
      bif (!y1) then
        k (.inl (false, (i : Int)))
      else
        vne u0 u2 u3 u4 u5 u6 u7 u8 u9 l (i + 1) k)
theorem wqi {u0} {u2} {u3} {u4} {u5} {u6} {u7} {u8} {u9} (h0 : u6.length < 9223372036854775807) {K : (q26T ⊕ q26T) → Option Res} : ∀ (l : List van) (i : Nat)  (n : Nat), u6.drop i = l → l.length < n → vai vld n (u0, (i : Int), u2, u3, u4, u5, u6, u7, u8, u9) K = vne u0 u2 u3 u4 u5 u6 u7 u8 u9 l  i (Sum.elim (fun z => K (.inl (z.1, z.2, u2, u3, u4, u5, u6, u7, u8, u9))) (fun z => K (.inr (u0, z, u2, u3, u4, u5, u6, u7, u8, u9)))) := by
  intro l
  induction l with
  | nil =>
    intro i  n hd hn
    have hge := vcd hd
    cases n with
    | zero => exact absurd hn (Nat.not_lt_zero _)
    | succ n => simp only [vai, vld, vne, hge, decide_false, cond_false, Sum.elim_inr, Sum.elim_inl]
  | cons y l ih =>
    intro i  n hd hn
    obtain ⟨hlt, hz, hd2, hw, hnn⟩ := vbt hd h0
    have hy := va8 hd
    cases n with
    | zero => exact absurd hn (Nat.not_lt_zero _)
    | succ n =>
      have ih2 := ih (i + 1)  n hd2 (Nat.lt_of_succ_lt_succ hn)
      simp only [vai, vld, vne, hlt, hz, decide_true, cond_true, and_self, if_true, hy, hw, hnn, Sum.elim_inl, Sum.elim_inr, ih2]
theorem wse {u0} {u2} {u3} {u4} {u5} {u6} {u7} {u8} {u9} (h0 : u6.length < 9223372036854775807) {K : (q26T ⊕ q26T) → Option Res}  : vai vld Fuel (u0, (0 : Int), u2, u3, u4, u5, u6, u7, u8, u9) K = vne u0 u2 u3 u4 u5 u6 u7 u8 u9 u6  0 (Sum.elim (fun z => K (.inl (z.1, z.2, u2, u3, u4, u5, u6, u7, u8, u9))) (fun z => K (.inr (u0, z, u2, u3, u4, u5, u6, u7, u8, u9)))) :=
  wqi h0 u6 0  Fuel rfl (vby h0)
def vhp (u0 : Bool) (u1 : Int) (u2 : Int) (u3 : Int) (u4 : Int) (u5 : (List van)) (u6 : (List vam)) (u7 : Bool) (u8 : ByteArray) (k : Bool → Option Res) : Option Res :=
    vne u0 u1 u2 u3 u4 u5 u6 u7 u8 u5  0 (Sum.elim (fun z1 =>
      k z1.1) (fun _ =>
      bif (u2 == (3 : Int)) then
        vdx u4 (IntKind.wrap .i64 (u3 + (1 : Int))) (9999 : Int) (fun y3 =>
          bif (!y3) then
            k false
          else
            bif (u2 != (3 : Int)) then
              bif (u4 != (0 : Int)) then
                k false
              else
                vcx u0 u1 u2 u3 u4 u5 u6 u7 u8 (fun z4 =>
                  k z4)
            else
              vcx u0 u1 u2 u3 u4 u5 u6 u7 u8 (fun z5 =>
                k z5))
      else
        bif (u2 != (3 : Int)) then
          bif (u4 != (0 : Int)) then
            k false
          else
            vcx u0 u1 u2 u3 u4 u5 u6 u7 u8 (fun z6 =>
              k z6)
        else
          vcx u0 u1 u2 u3 u4 u5 u6 u7 u8 (fun z7 =>
            k z7)))
theorem vyi {u0} {u1} {u2} {u3} {u4} {u5} {u6} {u7} {u8} (h0 : u5.length < 9223372036854775807) {K : q25T → Option Res} : vdf (u0, u1, u2, u3, u4, u5, u6, u7, u8) K = vhp u0 u1 u2 u3 u4 u5 u6 u7 u8 (fun z => K (z, u1, u2, u3, u4, u5, u6, u7, u8)) := by
  simp only [vdf, vhp, vzq, (wse h0), Sum.elim_inl, Sum.elim_inr]
def wkq (a0 : dTxn) (k : Bool → Option Res) : Option Res :=
  vdx a0.1 (1 : Int) (9999 : Int) (fun y24 =>
    bif (!y24) then
      k false
    else
      vdx a0.2.1 (1 : Int) (3 : Int) (fun y25 =>
        bif (!y25) then
          k false
        else
          vdx a0.2.2.1 (0 : Int) (9999 : Int) (fun y26 =>
            bif (!y26) then
              k false
            else
              bif (decide ((a0.2.2.2.2.1.length : Int) > (8 : Int))) then
                k false
              else
                vve a0.2.2.2.2.2.1 (fun y27 =>
                  bif (!y27) then
                    k false
                  else
                    vhp false a0.1 a0.2.1 a0.2.2.1 a0.2.2.2.1 a0.2.2.2.2.1 a0.2.2.2.2.2.1 a0.2.2.2.2.2.2.1 a0.2.2.2.2.2.2.2 (fun z28 =>
                      k z28)))))
theorem w19 {a0 : dTxn} (h0 : a0.2.2.2.2.1.length < 9223372036854775807) {k : Bool → Option Res} : vmx a0 k = wkq a0 k := by
  rw [wjl]
  simp only [wc7, wkq, (vyi h0), Sum.elim_inl, Sum.elim_inr]
def ve3 (u0 : (List vac)) (u1 : Bool) (u2 : Int) (u3 : ByteArray) (u4 : ByteArray) (u5 : Bool) (u6 : Int) (k : (Bool ⊕ Unit) → Option Res) : Option Res :=
    bif (decide (u2 > (0 : Int))) then
      if 0 ≤ (IntKind.wrap .i64 (u2 - (1 : Int))) ∧ (IntKind.wrap .i64 (u2 - (1 : Int))) < (u0.length : Int) then
        bif (!((va2 ((rd (Ty.zero tVersion) u0 (IntKind.wrap .i64 (u2 - (1 : Int)))).1) u3) || (va9 ((rd (Ty.zero tVersion) u0 (IntKind.wrap .i64 (u2 - (1 : Int)))).1) u3))) then
          k (.inl false)
        else
          if 0 ≤ (IntKind.wrap .i64 (u2 - (1 : Int))) ∧ (IntKind.wrap .i64 (u2 - (1 : Int))) < (u0.length : Int) then
            bif (va9 ((rd (Ty.zero tVersion) u0 (IntKind.wrap .i64 (u2 - (1 : Int)))).1) u3) then
              if 0 ≤ (IntKind.wrap .i64 (u2 - (1 : Int))) ∧ (IntKind.wrap .i64 (u2 - (1 : Int))) < (u0.length : Int) then
                bif (decide ((rd (Ty.zero tVersion) u0 (IntKind.wrap .i64 (u2 - (1 : Int)))).2.2.2 ≥ u6)) then
                  k (.inl false)
                else
                  k (.inr ())
              else none
            else
              k (.inr ())
          else none
      else none
    else
      k (.inr ())
theorem vpg {u0} {u1} {u2} {u3} {u4} {u5} {u6}  {K : (q10T ⊕ q10T) → Option Res} : vcn (u0, u1, u2, u3, u4, u5, u6) K = ve3 u0 u1 u2 u3 u4 u5 u6 (Sum.elim (fun z => K (.inl (u0, z, u2, u3, u4, u5, u6))) (fun _ => K (.inr (u0, u1, u2, u3, u4, u5, u6)))) := by
  simp only [vcn, ve3, Sum.elim_inl, Sum.elim_inr]
def vlo (u0 : (List vac)) (u1 : Bool) : List vac → Nat → (((Bool × Int) ⊕ Int) → Option Res) → Option Res
  | [], i, k =>
    k (.inr (i : Int))
  | y :: l, i, k =>
    vjz y.1 (fun y1 =>
      bif (!y1) then
        k (.inl (false, (i : Int)))
      else
        bif (decide ((y.2.1.size : Int) > (12 : Int))) then
          k (.inl (false, (i : Int)))
        else
          bif y.2.2.1 then
            bif (!(va9 (y.2.1) (⟨#[]⟩ : ByteArray))) then
              k (.inl (false, (i : Int)))
            else
              vdx y.2.2.2 (1 : Int) (9999 : Int) (fun y2 =>
                bif (!y2) then
                  k (.inl (false, (i : Int)))
                else
                  ve3 u0 u1 (i : Int) y.1 y.2.1 y.2.2.1 y.2.2.2 (Sum.elim (fun z3 =>
                    k (.inl (z3, (i : Int)))) (fun _ =>
                    vlo u0 u1 l (i + 1) k)))
          else
            vdx y.2.2.2 (1 : Int) (9999 : Int) (fun y5 =>
              bif (!y5) then
                k (.inl (false, (i : Int)))
              else
                ve3 u0 u1 (i : Int) y.1 y.2.1 y.2.2.1 y.2.2.2 (Sum.elim (fun z6 =>
                  k (.inl (z6, (i : Int)))) (fun _ =>
                  vlo u0 u1 l (i + 1) k))))
theorem wr3 {u0} {u1} (h0 : u0.length < 9223372036854775807) {K : (((List vac) × Bool × Int) ⊕ ((List vac) × Bool × Int)) → Option Res} : ∀ (l : List vac) (i : Nat)  (n : Nat), u0.drop i = l → l.length < n → vai vlj n (u0, u1, (i : Int)) K = vlo u0 u1 l  i (Sum.elim (fun z => K (.inl (u0, z.1, z.2))) (fun z => K (.inr (u0, u1, z)))) := by
  intro l
  induction l with
  | nil =>
    intro i  n hd hn
    have hge := vcd hd
    cases n with
    | zero => exact absurd hn (Nat.not_lt_zero _)
    | succ n => simp only [vai, vlj, vlo, hge, decide_false, cond_false, Sum.elim_inr, Sum.elim_inl, vpg]
  | cons y l ih =>
    intro i  n hd hn
    obtain ⟨hlt, hz, hd2, hw, hnn⟩ := vbt hd h0
    have hy := va8 hd
    cases n with
    | zero => exact absurd hn (Nat.not_lt_zero _)
    | succ n =>
      have ih2 := ih (i + 1)  n hd2 (Nat.lt_of_succ_lt_succ hn)
      simp only [vai, vlj, vlo, hlt, hz, decide_true, cond_true, and_self, if_true, hy, hw, hnn, Sum.elim_inl, Sum.elim_inr, ih2, vpg]
theorem wq0 {u0} {u1} (h0 : u0.length < 9223372036854775807) {K : (((List vac) × Bool × Int) ⊕ ((List vac) × Bool × Int)) → Option Res}  : vai vlj Fuel (u0, u1, (0 : Int)) K = vlo u0 u1 u0  0 (Sum.elim (fun z => K (.inl (u0, z.1, z.2))) (fun z => K (.inr (u0, u1, z)))) :=
  wr3 h0 u0 0  Fuel rfl (vby h0)
def wme (a0 : (List vac)) (k : Bool → Option Res) : Option Res :=
  vlo a0 false a0  0 (Sum.elim (fun z24 =>
    k z24.1) (fun _ =>
    k (decide ((a0.length : Int) ≤ (120 : Int)))))
theorem w0o {a0 : (List vac)} (h0 : a0.length < 9223372036854775807) {k : Bool → Option Res} : vvg a0 k = wme a0 k := by
  rw [wl1]
  simp only [wbu, wme, (wq0 h0), Sum.elim_inl, Sum.elim_inr]
def vmg (u0 : Bool) (u2 : (List vac)) (u3 : (List dTxn)) (u4 : (List dTxn)) (u5 : Int) (u6 : Int) : List vac → Nat → (((Bool × Int) ⊕ Int) → Option Res) → Option Res
  | [], i, k =>
    k (.inr (i : Int))
  | y :: l, i, k =>
    bif (decide (y.2.2.2 > u5)) then
      k (.inl (false, (i : Int)))
    else
      vmg u0 u2 u3 u4 u5 u6 l (i + 1) k
theorem wop {u0} {u2} {u3} {u4} {u5} {u6} (h0 : u2.length < 9223372036854775807) {K : (q21T ⊕ q21T) → Option Res} : ∀ (l : List vac) (i : Nat)  (n : Nat), u2.drop i = l → l.length < n → vai vkg n (u0, (i : Int), u2, u3, u4, u5, u6) K = vmg u0 u2 u3 u4 u5 u6 l  i (Sum.elim (fun z => K (.inl (z.1, z.2, u2, u3, u4, u5, u6))) (fun z => K (.inr (u0, z, u2, u3, u4, u5, u6)))) := by
  intro l
  induction l with
  | nil =>
    intro i  n hd hn
    have hge := vcd hd
    cases n with
    | zero => exact absurd hn (Nat.not_lt_zero _)
    | succ n => simp only [vai, vkg, vmg, hge, decide_false, cond_false, Sum.elim_inr, Sum.elim_inl]
  | cons y l ih =>
    intro i  n hd hn
    obtain ⟨hlt, hz, hd2, hw, hnn⟩ := vbt hd h0
    have hy := va8 hd
    cases n with
    | zero => exact absurd hn (Nat.not_lt_zero _)
    | succ n =>
      have ih2 := ih (i + 1)  n hd2 (Nat.lt_of_succ_lt_succ hn)
      simp only [vai, vkg, vmg, hlt, hz, decide_true, cond_true, and_self, if_true, hy, hw, hnn, Sum.elim_inl, Sum.elim_inr, ih2]
theorem wp8 {u0} {u2} {u3} {u4} {u5} {u6} (h0 : u2.length < 9223372036854775807) {K : (q21T ⊕ q21T) → Option Res}  : vai vkg Fuel (u0, (0 : Int), u2, u3, u4, u5, u6) K = vmg u0 u2 u3 u4 u5 u6 u2  0 (Sum.elim (fun z => K (.inl (z.1, z.2, u2, u3, u4, u5, u6))) (fun z => K (.inr (u0, z, u2, u3, u4, u5, u6)))) :=
  wop h0 u2 0  Fuel rfl (vby h0)
def vjj (u0 : Bool) (u2 : (List vac)) (u3 : (List dTxn)) (u4 : (List dTxn)) (u5 : Int) (u6 : Int) : List dTxn → (List Int) → Nat → (((Bool × Int × (List Int)) ⊕ (Int × (List Int))) → Option Res) → Option Res
  | [], s7, i, k =>
    k (.inr ((i : Int), s7))
  | y :: l, s7, i, k =>
    vmx y (fun y1 =>
      bif (!y1) then
        k (.inl (false, (i : Int), s7))
      else
        bif (y.2.1 != (3 : Int)) then
          k (.inl (false, (i : Int), s7))
        else
          bif (decide (y.2.2.2.1 > u5)) then
            k (.inl (false, (i : Int), s7))
          else
            bif (decide ((i : Int) > (0 : Int))) then
              if 0 ≤ (IntKind.wrap .i64 ((i : Int) - (1 : Int))) ∧ (IntKind.wrap .i64 ((i : Int) - (1 : Int))) < (u3.length : Int) then
                bif (decide ((rd (Ty.zero tTxn) u3 (IntKind.wrap .i64 ((i : Int) - (1 : Int)))).2.2.2.1 ≥ y.2.2.2.1)) then
                  k (.inl (false, (i : Int), s7))
                else
                  if s7.length + [y.1].length ≤ VE.maxLen then
                    vjj u0 u2 u3 u4 u5 u6 l (s7 ++ [y.1]) (i + 1) k
                  else none
              else none
            else
              if s7.length + [y.1].length ≤ VE.maxLen then
                vjj u0 u2 u3 u4 u5 u6 l (s7 ++ [y.1]) (i + 1) k
              else none)
theorem wn7 {u0} {u2} {u3} {u4} {u5} {u6} (h0 : u3.length < 9223372036854775807) {K : (q20T ⊕ q20T) → Option Res} : ∀ (l : List dTxn) (i : Nat) (s7 : (List Int)) (n : Nat), u3.drop i = l → l.length < n → vai vki n (u0, (i : Int), u2, u3, u4, u5, u6, s7) K = vjj u0 u2 u3 u4 u5 u6 l s7 i (Sum.elim (fun z => K (.inl (z.1, z.2.1, u2, u3, u4, u5, u6, z.2.2))) (fun z => K (.inr (u0, z.1, u2, u3, u4, u5, u6, z.2)))) := by
  intro l
  induction l with
  | nil =>
    intro i s7 n hd hn
    have hge := vcd hd
    cases n with
    | zero => exact absurd hn (Nat.not_lt_zero _)
    | succ n => simp only [vai, vki, vjj, hge, decide_false, cond_false, Sum.elim_inr, Sum.elim_inl]
  | cons y l ih =>
    intro i s7 n hd hn
    obtain ⟨hlt, hz, hd2, hw, hnn⟩ := vbt hd h0
    have hy := va8 hd
    cases n with
    | zero => exact absurd hn (Nat.not_lt_zero _)
    | succ n =>
      have ih2 := fun (s7 : (List Int)) => ih (i + 1) s7 n hd2 (Nat.lt_of_succ_lt_succ hn)
      simp only [vai, vki, vjj, hlt, hz, decide_true, cond_true, and_self, if_true, hy, hw, hnn, Sum.elim_inl, Sum.elim_inr, ih2]
theorem wny {u0} {u2} {u3} {u4} {u5} {u6} (h0 : u3.length < 9223372036854775807) {K : (q20T ⊕ q20T) → Option Res} {s7 : (List Int)} : vai vki Fuel (u0, (0 : Int), u2, u3, u4, u5, u6, s7) K = vjj u0 u2 u3 u4 u5 u6 u3 s7 0 (Sum.elim (fun z => K (.inl (z.1, z.2.1, u2, u3, u4, u5, u6, z.2.2))) (fun z => K (.inr (u0, z.1, u2, u3, u4, u5, u6, z.2)))) :=
  wn7 h0 u3 0 s7 Fuel rfl (vby h0)
def vji (u0 : Bool) (u2 : (List vac)) (u3 : (List dTxn)) (u4 : (List dTxn)) (u5 : Int) (u6 : Int) : List dTxn → (List Int) → Nat → (((Bool × Int × (List Int)) ⊕ (Int × (List Int))) → Option Res) → Option Res
  | [], s7, i, k =>
    k (.inr ((i : Int), s7))
  | y :: l, s7, i, k =>
    vmx y (fun y1 =>
      bif (!y1) then
        k (.inl (false, (i : Int), s7))
      else
        bif (y.2.1 != (2 : Int)) then
          k (.inl (false, (i : Int), s7))
        else
          bif (decide (y.2.2.1 > u5)) then
            k (.inl (false, (i : Int), s7))
          else
            bif (decide ((i : Int) > (0 : Int))) then
              if 0 ≤ (IntKind.wrap .i64 ((i : Int) - (1 : Int))) ∧ (IntKind.wrap .i64 ((i : Int) - (1 : Int))) < (u4.length : Int) then
                bif (!(va2 ((rd (Ty.zero tTxn) u4 (IntKind.wrap .i64 ((i : Int) - (1 : Int)))).2.2.2.2.2.2.2) (y.2.2.2.2.2.2.2))) then
                  k (.inl (false, (i : Int), s7))
                else
                  if s7.length + [y.1].length ≤ VE.maxLen then
                    vji u0 u2 u3 u4 u5 u6 l (s7 ++ [y.1]) (i + 1) k
                  else none
              else none
            else
              if s7.length + [y.1].length ≤ VE.maxLen then
                vji u0 u2 u3 u4 u5 u6 l (s7 ++ [y.1]) (i + 1) k
              else none)
theorem wpy {u0} {u2} {u3} {u4} {u5} {u6} (h0 : u4.length < 9223372036854775807) {K : (q20T ⊕ q20T) → Option Res} : ∀ (l : List dTxn) (i : Nat) (s7 : (List Int)) (n : Nat), u4.drop i = l → l.length < n → vai vk9 n (u0, (i : Int), u2, u3, u4, u5, u6, s7) K = vji u0 u2 u3 u4 u5 u6 l s7 i (Sum.elim (fun z => K (.inl (z.1, z.2.1, u2, u3, u4, u5, u6, z.2.2))) (fun z => K (.inr (u0, z.1, u2, u3, u4, u5, u6, z.2)))) := by
  intro l
  induction l with
  | nil =>
    intro i s7 n hd hn
    have hge := vcd hd
    cases n with
    | zero => exact absurd hn (Nat.not_lt_zero _)
    | succ n => simp only [vai, vk9, vji, hge, decide_false, cond_false, Sum.elim_inr, Sum.elim_inl]
  | cons y l ih =>
    intro i s7 n hd hn
    obtain ⟨hlt, hz, hd2, hw, hnn⟩ := vbt hd h0
    have hy := va8 hd
    cases n with
    | zero => exact absurd hn (Nat.not_lt_zero _)
    | succ n =>
      have ih2 := fun (s7 : (List Int)) => ih (i + 1) s7 n hd2 (Nat.lt_of_succ_lt_succ hn)
      simp only [vai, vk9, vji, hlt, hz, decide_true, cond_true, and_self, if_true, hy, hw, hnn, Sum.elim_inl, Sum.elim_inr, ih2]
theorem wqf {u0} {u2} {u3} {u4} {u5} {u6} (h0 : u4.length < 9223372036854775807) {K : (q20T ⊕ q20T) → Option Res} {s7 : (List Int)} : vai vk9 Fuel (u0, (0 : Int), u2, u3, u4, u5, u6, s7) K = vji u0 u2 u3 u4 u5 u6 u4 s7 0 (Sum.elim (fun z => K (.inl (z.1, z.2.1, u2, u3, u4, u5, u6, z.2.2))) (fun z => K (.inr (u0, z.1, u2, u3, u4, u5, u6, z.2)))) :=
  wpy h0 u4 0 s7 Fuel rfl (vby h0)
def vhb (u0 : Bool) (u1 : (List vac)) (u2 : (List dTxn)) (u3 : (List dTxn)) (u4 : Int) (u5 : Int) (k : q17T → Option Res) : Option Res :=
    vmg u0 u1 u2 u3 u4 u5 u1  0 (Sum.elim (fun z1 =>
      k (z1.1, u1, u2, u3, u4, u5)) (fun _ =>
      vjj u0 u1 u2 u3 u4 u5 u2 ([] : List Int) 0 (Sum.elim (fun z3 =>
        k (z3.1, u1, u2, u3, u4, u5)) (fun z4 =>
        vji u0 u1 u2 u3 u4 u5 u3 z4.2 0 (Sum.elim (fun z5 =>
          k (z5.1, u1, u2, u3, u4, u5)) (fun z6 =>
          vai vlf Fuel (u0, (0 : Int), u1, u2, u3, u4, u5, z6.2) (Sum.elim (fun z7 =>
            k (true, z7.2.2.1, z7.2.2.2.1, z7.2.2.2.2.1, z7.2.2.2.2.2.1, z7.2.2.2.2.2.2.1)) (fun z8 =>
            k (z8.1, z8.2.2.1, z8.2.2.2.1, z8.2.2.2.2.1, z8.2.2.2.2.2.1, z8.2.2.2.2.2.2.1)))))))))
theorem vyp {u0} {u1} {u2} {u3} {u4} {u5} (h0 : u3.length < 9223372036854775807) (h1 : u2.length < 9223372036854775807) (h2 : u1.length < 9223372036854775807) {K : q17T → Option Res} : vdo (u0, u1, u2, u3, u4, u5) K = vhb u0 u1 u2 u3 u4 u5 (fun z => K (z.1, z.2.1, z.2.2.1, z.2.2.2.1, z.2.2.2.2.1, z.2.2.2.2.2)) := by
  simp only [vdo, vhb, (wqf h0), (wny h1), (wp8 h2), Sum.elim_inl, Sum.elim_inr]
def wmz (a0 : vn7) (k : Bool → Option Res) : Option Res :=
  vvg a0.1 (fun y24 =>
    bif (!y24) then
      k false
    else
      bif (decide ((a0.2.1.length : Int) > (12 : Int))) then
        k false
      else
        bif (decide ((a0.2.2.1.length : Int) > (3 : Int))) then
          k false
        else
          vdx a0.2.2.2.1 (0 : Int) (9999 : Int) (fun y25 =>
            bif (!y25) then
              k false
            else
              vdx a0.2.2.2.2 (1 : Int) (9999 : Int) (fun y26 =>
                bif (!y26) then
                  k false
                else
                  vhb false a0.1 a0.2.1 a0.2.2.1 a0.2.2.2.1 a0.2.2.2.2 (fun z27 =>
                    k z27.1))))
theorem wxz {a0 : vn7} (h0 : a0.2.2.1.length < 9223372036854775807) (h1 : a0.2.1.length < 9223372036854775807) (h2 : a0.1.length < 9223372036854775807) {k : Bool → Option Res} : vxd a0 k = wmz a0 k := by
  rw [wh1]
  simp only [wdb, wmz, (vyp h0 h1 h2), Sum.elim_inl, Sum.elim_inr]
def vmn (u0 : ByteArray) (u1 : Bool) : List Int → Nat → (((Bool × Int) ⊕ Int) → Option Res) → Option Res
  | [], i, k =>
    k (.inr (i : Int))
  | y :: l, i, k =>
    bif (decide (y < (97 : Int))) then
      k (.inl (false, (i : Int)))
    else
      bif (decide (y > (122 : Int))) then
        k (.inl (false, (i : Int)))
      else
        vmn u0 u1 l (i + 1) k
theorem wr8 {u0} {u1} (h0 : u0.size < 9223372036854775807) {K : ((ByteArray × Bool × Int) ⊕ (ByteArray × Bool × Int)) → Option Res} : ∀ (l : List Int) (i : Nat)  (n : Nat), (va7 u0).drop i = l → l.length < n → vai vlp n (u0, u1, (i : Int)) K = vmn u0 u1 l  i (Sum.elim (fun z => K (.inl (u0, z.1, z.2))) (fun z => K (.inr (u0, u1, z)))) := by
  intro l
  induction l with
  | nil =>
    intro i  n hd hn
    have hge := v2z hd
    cases n with
    | zero => exact absurd hn (Nat.not_lt_zero _)
    | succ n => simp only [vai, vlp, vmn, hge, decide_false, cond_false, Sum.elim_inr, Sum.elim_inl]
  | cons y l ih =>
    intro i  n hd hn
    obtain ⟨hlt, hz, hd2, hw, hnn⟩ := wfa hd h0
    have hy := v77 hd
    cases n with
    | zero => exact absurd hn (Nat.not_lt_zero _)
    | succ n =>
      have ih2 := ih (i + 1)  n hd2 (Nat.lt_of_succ_lt_succ hn)
      simp only [vai, vlp, vmn, hlt, hz, decide_true, cond_true, and_self, if_true, hy, hw, hnn, Sum.elim_inl, Sum.elim_inr, ih2]
theorem wpd {u0} {u1} (h0 : u0.size < 9223372036854775807) {K : ((ByteArray × Bool × Int) ⊕ (ByteArray × Bool × Int)) → Option Res}  : vai vlp Fuel (u0, u1, (0 : Int)) K = vmn u0 u1 (va7 u0)  0 (Sum.elim (fun z => K (.inl (u0, z.1, z.2))) (fun z => K (.inr (u0, u1, z)))) :=
  wr8 h0 (va7 u0) 0  Fuel rfl (weu h0)
def wjn (a0 : ByteArray) (k : Bool → Option Res) : Option Res :=
  vmn a0 false (va7 a0)  0 (Sum.elim (fun z24 =>
    k z24.1) (fun _ =>
    vdb (a0.size : Int) (1 : Int) (3 : Int) (fun y26 =>
      k y26)))
theorem w1s {a0 : ByteArray} (h0 : a0.size < 9223372036854775807) {k : Bool → Option Res} : vjw a0 k = wjn a0 k := by
  rw [whq]
  simp only [wed, wjn, (wpd h0), Sum.elim_inl, Sum.elim_inr]
def vlr (u0 : (List vam)) (u1 : Bool) (u2 : (List vam)) : List vam → Nat → (((Bool × Int) ⊕ Int) → Option Res) → Option Res
  | [], i, k =>
    k (.inr (i : Int))
  | y :: l, i, k =>
    vw9 y (fun y1 =>
      bif (!y1) then
        k (.inl (false, (i : Int)))
      else
        bif (decide ((i : Int) > (0 : Int))) then
          if 0 ≤ (IntKind.wrap .i64 ((i : Int) - (1 : Int))) ∧ (IntKind.wrap .i64 ((i : Int) - (1 : Int))) < (u0.length : Int) then
            bif (!(va2 ((rd (Ty.zero tWrite) u0 (IntKind.wrap .i64 ((i : Int) - (1 : Int)))).1) (y.1))) then
              k (.inl (false, (i : Int)))
            else
              vlr u0 u1 u2 l (i + 1) k
          else none
        else
          vlr u0 u1 u2 l (i + 1) k)
theorem wpt {u0} {u1} {u2} (h0 : u2.length < 9223372036854775807) {K : (q13T ⊕ q13T) → Option Res} : ∀ (l : List vam) (i : Nat)  (n : Nat), u2.drop i = l → l.length < n → vai vkv n (u0, u1, u2, (u2.length : Int), (i : Int)) K = vlr u0 u1 u2 l  i (Sum.elim (fun z => K (.inl (u0, z.1, u2, (u2.length : Int), z.2))) (fun z => K (.inr (u0, u1, u2, (u2.length : Int), z)))) := by
  intro l
  induction l with
  | nil =>
    intro i  n hd hn
    have hge := vcd hd
    cases n with
    | zero => exact absurd hn (Nat.not_lt_zero _)
    | succ n => simp only [vai, vkv, vlr, hge, decide_false, cond_false, Sum.elim_inr, Sum.elim_inl]
  | cons y l ih =>
    intro i  n hd hn
    obtain ⟨hlt, hz, hd2, hw, hnn⟩ := vbt hd h0
    have hy := va8 hd
    cases n with
    | zero => exact absurd hn (Nat.not_lt_zero _)
    | succ n =>
      have ih2 := ih (i + 1)  n hd2 (Nat.lt_of_succ_lt_succ hn)
      simp only [vai, vkv, vlr, hlt, hz, decide_true, cond_true, and_self, if_true, hy, hw, hnn, Sum.elim_inl, Sum.elim_inr, ih2]
theorem wqe {u0} {u1} {u2} (h0 : u2.length < 9223372036854775807) {K : (q13T ⊕ q13T) → Option Res}  : vai vkv Fuel (u0, u1, u2, (u2.length : Int), (0 : Int)) K = vlr u0 u1 u2 u2  0 (Sum.elim (fun z => K (.inl (u0, z.1, u2, (u2.length : Int), z.2))) (fun z => K (.inr (u0, u1, u2, (u2.length : Int), z)))) :=
  wpt h0 u2 0  Fuel rfl (vby h0)
def wkx (a0 : (List vam)) (k : Bool → Option Res) : Option Res :=
  vlr a0 false a0 a0  0 (Sum.elim (fun z24 =>
    k z24.1) (fun _ =>
    k (decide ((a0.length : Int) ≤ (8 : Int)))))
theorem w0q {a0 : (List vam)} (h0 : a0.length < 9223372036854775807) {k : Bool → Option Res} : vuo a0 k = wkx a0 k := by
  rw [wmp]
  simp only [wc1, wkx, (wqe h0), Sum.elim_inl, Sum.elim_inr]
def vcv (u0 : Bool) (u1 : Int) (u2 : Int) (u3 : Int) (u4 : Int) (u5 : (List van)) (u6 : (List vam)) (u7 : Bool) (u8 : ByteArray) (k : Bool → Option Res) : Option Res :=
    bif (u2 == (2 : Int)) then
      vjw u8 (fun y1 =>
        bif y1 then
          k true
        else
          bif (u2 != (2 : Int)) then
            k (va9 u8 (⟨#[]⟩ : ByteArray))
          else
            k false)
    else
      bif (u2 != (2 : Int)) then
        k (va9 u8 (⟨#[]⟩ : ByteArray))
      else
        k false
theorem vzs {u0} {u1} {u2} {u3} {u4} {u5} {u6} {u7} {u8}  {K : q25T → Option Res} : vb7 (u0, u1, u2, u3, u4, u5, u6, u7, u8) K = vcv u0 u1 u2 u3 u4 u5 u6 u7 u8 (fun z => K (z, u1, u2, u3, u4, u5, u6, u7, u8)) := by
  simp only [vb7, vcv, Sum.elim_inl, Sum.elim_inr]
def vez (u0 : Bool) (u1 : Int) (u2 : Int) (u3 : Int) (u4 : Int) (u5 : (List van)) (u6 : (List vam)) (u7 : Bool) (u8 : ByteArray) (k : Bool → Option Res) : Option Res :=
    bif (u2 == (3 : Int)) then
      vdb u4 (IntKind.wrap .i64 (u3 + (1 : Int))) (9999 : Int) (fun y1 =>
        bif (!y1) then
          k false
        else
          bif (u2 != (3 : Int)) then
            bif (u4 != (0 : Int)) then
              k false
            else
              vcv u0 u1 u2 u3 u4 u5 u6 u7 u8 (fun z2 =>
                k z2)
          else
            vcv u0 u1 u2 u3 u4 u5 u6 u7 u8 (fun z3 =>
              k z3))
    else
      bif (u2 != (3 : Int)) then
        bif (u4 != (0 : Int)) then
          k false
        else
          vcv u0 u1 u2 u3 u4 u5 u6 u7 u8 (fun z4 =>
            k z4)
      else
        vcv u0 u1 u2 u3 u4 u5 u6 u7 u8 (fun z5 =>
          k z5)
theorem v0a {u0} {u1} {u2} {u3} {u4} {u5} {u6} {u7} {u8}  {K : q25T → Option Res} : vcq (u0, u1, u2, u3, u4, u5, u6, u7, u8) K = vez u0 u1 u2 u3 u4 u5 u6 u7 u8 (fun z => K (z, u1, u2, u3, u4, u5, u6, u7, u8)) := by
  simp only [vcq, vez, vzs, Sum.elim_inl, Sum.elim_inr]
def vna (u0 : Bool) (u1 : (List van)) (u4 : Int) (u5 : Int) (u6 : Int) (u7 : Int) (u8 : (List van)) (u9 : (List vam)) (u10 : Bool) (u11 : ByteArray) : List van → Nat → (((Bool × Int) ⊕ Int) → Option Res) → Option Res
  | [], i, k =>
    k (.inr (i : Int))
  | y :: l, i, k =>
    vw3 y (fun y1 =>
      bif (!y1) then
        k (.inl (false, (i : Int)))
      else
        vna u0 u1 u4 u5 u6 u7 u8 u9 u10 u11 l (i + 1) k)
theorem wqk {u0} {u1} {u4} {u5} {u6} {u7} {u8} {u9} {u10} {u11} (h0 : u1.length < 9223372036854775807) {K : (q15T ⊕ q15T) → Option Res} : ∀ (l : List van) (i : Nat)  (n : Nat), u1.drop i = l → l.length < n → vai vk1 n (u0, u1, (u1.length : Int), (i : Int), u4, u5, u6, u7, u8, u9, u10, u11) K = vna u0 u1 u4 u5 u6 u7 u8 u9 u10 u11 l  i (Sum.elim (fun z => K (.inl (z.1, u1, (u1.length : Int), z.2, u4, u5, u6, u7, u8, u9, u10, u11))) (fun z => K (.inr (u0, u1, (u1.length : Int), z, u4, u5, u6, u7, u8, u9, u10, u11)))) := by
  intro l
  induction l with
  | nil =>
    intro i  n hd hn
    have hge := vcd hd
    cases n with
    | zero => exact absurd hn (Nat.not_lt_zero _)
    | succ n => simp only [vai, vk1, vna, hge, decide_false, cond_false, Sum.elim_inr, Sum.elim_inl]
  | cons y l ih =>
    intro i  n hd hn
    obtain ⟨hlt, hz, hd2, hw, hnn⟩ := vbt hd h0
    have hy := va8 hd
    cases n with
    | zero => exact absurd hn (Nat.not_lt_zero _)
    | succ n =>
      have ih2 := ih (i + 1)  n hd2 (Nat.lt_of_succ_lt_succ hn)
      simp only [vai, vk1, vna, hlt, hz, decide_true, cond_true, and_self, if_true, hy, hw, hnn, Sum.elim_inl, Sum.elim_inr, ih2]
theorem woa {u0} {u1} {u4} {u5} {u6} {u7} {u8} {u9} {u10} {u11} (h0 : u1.length < 9223372036854775807) {K : (q15T ⊕ q15T) → Option Res}  : vai vk1 Fuel (u0, u1, (u1.length : Int), (0 : Int), u4, u5, u6, u7, u8, u9, u10, u11) K = vna u0 u1 u4 u5 u6 u7 u8 u9 u10 u11 u1  0 (Sum.elim (fun z => K (.inl (z.1, u1, (u1.length : Int), z.2, u4, u5, u6, u7, u8, u9, u10, u11))) (fun z => K (.inr (u0, u1, (u1.length : Int), z, u4, u5, u6, u7, u8, u9, u10, u11)))) :=
  wqk h0 u1 0  Fuel rfl (vby h0)
def wjk (a0 : dTxn) (k : Bool → Option Res) : Option Res :=
  vna false a0.2.2.2.2.1 a0.1 a0.2.1 a0.2.2.1 a0.2.2.2.1 a0.2.2.2.2.1 a0.2.2.2.2.2.1 a0.2.2.2.2.2.2.1 a0.2.2.2.2.2.2.2 a0.2.2.2.2.1  0 (Sum.elim (fun z24 =>
    k z24.1) (fun _ =>
    vdb a0.1 (1 : Int) (9999 : Int) (fun y26 =>
      bif (!y26) then
        k false
      else
        vdb a0.2.1 (1 : Int) (3 : Int) (fun y27 =>
          bif (!y27) then
            k false
          else
            vdb a0.2.2.1 (0 : Int) (9999 : Int) (fun y28 =>
              bif (!y28) then
                k false
              else
                bif (decide ((a0.2.2.2.2.1.length : Int) > (8 : Int))) then
                  k false
                else
                  vuo a0.2.2.2.2.2.1 (fun y29 =>
                    bif (!y29) then
                      k false
                    else
                      bif a0.2.2.2.2.2.2.1 then
                        bif (a0.2.1 == (1 : Int)) then
                          k false
                        else
                          vez false a0.1 a0.2.1 a0.2.2.1 a0.2.2.2.1 a0.2.2.2.2.1 a0.2.2.2.2.2.1 a0.2.2.2.2.2.2.1 a0.2.2.2.2.2.2.2 (fun z30 =>
                            k z30)
                      else
                        vez false a0.1 a0.2.1 a0.2.2.1 a0.2.2.2.1 a0.2.2.2.2.1 a0.2.2.2.2.2.1 a0.2.2.2.2.2.2.1 a0.2.2.2.2.2.2.2 (fun z31 =>
                          k z31)))))))
theorem w27 {a0 : dTxn} (h0 : a0.2.2.2.2.1.length < 9223372036854775807) {k : Bool → Option Res} : vnm a0 k = wjk a0 k := by
  rw [wjb]
  simp only [wb9, wjk, v0a, (woa h0), Sum.elim_inl, Sum.elim_inr]
def viu (u0 : (List vac)) (u1 : Bool) (u2 : (List vac)) : List vac → Nat → (((Bool × Int) ⊕ Int) → Option Res) → Option Res
  | [], i, k =>
    k (.inr (i : Int))
  | y :: l, i, k =>
    vjw y.1 (fun y1 =>
      bif (!y1) then
        k (.inl (false, (i : Int)))
      else
        bif (decide ((y.2.1.size : Int) > (12 : Int))) then
          k (.inl (false, (i : Int)))
        else
          bif y.2.2.1 then
            bif (!(va9 (y.2.1) (⟨#[]⟩ : ByteArray))) then
              k (.inl (false, (i : Int)))
            else
              vdb y.2.2.2 (1 : Int) (9999 : Int) (fun y2 =>
                bif (!y2) then
                  k (.inl (false, (i : Int)))
                else
                  bif (decide ((i : Int) > (0 : Int))) then
                    if 0 ≤ (IntKind.wrap .i64 ((i : Int) - (1 : Int))) ∧ (IntKind.wrap .i64 ((i : Int) - (1 : Int))) < (u0.length : Int) then
                      vru (rd (Ty.zero tVersion) u0 (IntKind.wrap .i64 ((i : Int) - (1 : Int)))) y (fun y3 =>
                        bif (decide (y3 ≥ (0 : Int))) then
                          k (.inl (false, (i : Int)))
                        else
                          viu u0 u1 u2 l (i + 1) k)
                    else none
                  else
                    viu u0 u1 u2 l (i + 1) k)
          else
            vdb y.2.2.2 (1 : Int) (9999 : Int) (fun y4 =>
              bif (!y4) then
                k (.inl (false, (i : Int)))
              else
                bif (decide ((i : Int) > (0 : Int))) then
                  if 0 ≤ (IntKind.wrap .i64 ((i : Int) - (1 : Int))) ∧ (IntKind.wrap .i64 ((i : Int) - (1 : Int))) < (u0.length : Int) then
                    vru (rd (Ty.zero tVersion) u0 (IntKind.wrap .i64 ((i : Int) - (1 : Int)))) y (fun y5 =>
                      bif (decide (y5 ≥ (0 : Int))) then
                        k (.inl (false, (i : Int)))
                      else
                        viu u0 u1 u2 l (i + 1) k)
                  else none
                else
                  viu u0 u1 u2 l (i + 1) k))
theorem wpq {u0} {u1} {u2} (h0 : u2.length < 9223372036854775807) {K : (q9T ⊕ q9T) → Option Res} : ∀ (l : List vac) (i : Nat)  (n : Nat), u2.drop i = l → l.length < n → vai vl1 n (u0, u1, u2, (u2.length : Int), (i : Int)) K = viu u0 u1 u2 l  i (Sum.elim (fun z => K (.inl (u0, z.1, u2, (u2.length : Int), z.2))) (fun z => K (.inr (u0, u1, u2, (u2.length : Int), z)))) := by
  intro l
  induction l with
  | nil =>
    intro i  n hd hn
    have hge := vcd hd
    cases n with
    | zero => exact absurd hn (Nat.not_lt_zero _)
    | succ n => simp only [vai, vl1, viu, hge, decide_false, cond_false, Sum.elim_inr, Sum.elim_inl]
  | cons y l ih =>
    intro i  n hd hn
    obtain ⟨hlt, hz, hd2, hw, hnn⟩ := vbt hd h0
    have hy := va8 hd
    cases n with
    | zero => exact absurd hn (Nat.not_lt_zero _)
    | succ n =>
      have ih2 := ih (i + 1)  n hd2 (Nat.lt_of_succ_lt_succ hn)
      simp only [vai, vl1, viu, hlt, hz, decide_true, cond_true, and_self, if_true, hy, hw, hnn, Sum.elim_inl, Sum.elim_inr, ih2]
theorem wrz {u0} {u1} {u2} (h0 : u2.length < 9223372036854775807) {K : (q9T ⊕ q9T) → Option Res}  : vai vl1 Fuel (u0, u1, u2, (u2.length : Int), (0 : Int)) K = viu u0 u1 u2 u2  0 (Sum.elim (fun z => K (.inl (u0, z.1, u2, (u2.length : Int), z.2))) (fun z => K (.inr (u0, u1, u2, (u2.length : Int), z)))) :=
  wpq h0 u2 0  Fuel rfl (vby h0)
def whf (a0 : (List vac)) (k : Bool → Option Res) : Option Res :=
  viu a0 false a0 a0  0 (Sum.elim (fun z24 =>
    k z24.1) (fun _ =>
    k (decide ((a0.length : Int) ≤ (120 : Int)))))
theorem wzy {a0 : (List vac)} (h0 : a0.length < 9223372036854775807) {k : Bool → Option Res} : vu7 a0 k = whf a0 k := by
  rw [wg7]
  simp only [wcr, whf, (wrz h0), Sum.elim_inl, Sum.elim_inr]
def vl3 (u0 : (List (List dTxn))) (u2 : (List (List dTxn))) : List (List dTxn) → Int → Nat → ((Int × Int) → Option Res) → Option Res
  | [], s1, i, k =>
    k (s1, (i : Int))
  | y :: l, s1, i, k =>
    bif (decide ((IntKind.wrap .i64 (s1 + (y.length : Int))) < (0 : Int))) then
      none
    else
      vl3 u0 u2 l (IntKind.wrap .i64 (s1 + (y.length : Int))) (i + 1) k
theorem wpx {u0} {u2} (h0 : u2.length < 9223372036854775807) {K : q0T → Option Res} : ∀ (l : List (List dTxn)) (i : Nat) (s1 : Int) (n : Nat), u2.drop i = l → l.length < n → vai vlq n (u0, s1, u2, (u2.length : Int), (i : Int)) K = vl3 u0 u2 l s1 i (fun z => K (u0, z.1, u2, (u2.length : Int), z.2)) := by
  intro l
  induction l with
  | nil =>
    intro i s1 n hd hn
    have hge := vcd hd
    cases n with
    | zero => exact absurd hn (Nat.not_lt_zero _)
    | succ n => simp only [vai, vlq, vl3, hge, decide_false, cond_false, Sum.elim_inr, Sum.elim_inl]
  | cons y l ih =>
    intro i s1 n hd hn
    obtain ⟨hlt, hz, hd2, hw, hnn⟩ := vbt hd h0
    have hy := va8 hd
    cases n with
    | zero => exact absurd hn (Nat.not_lt_zero _)
    | succ n =>
      have ih2 := fun (s1 : Int) => ih (i + 1) s1 n hd2 (Nat.lt_of_succ_lt_succ hn)
      simp only [vai, vlq, vl3, hlt, hz, decide_true, cond_true, and_self, if_true, hy, hw, hnn, Sum.elim_inl, Sum.elim_inr, ih2]
theorem wp0 {u0} {u2} (h0 : u2.length < 9223372036854775807) {K : q0T → Option Res} {s1 : Int} : vai vlq Fuel (u0, s1, u2, (u2.length : Int), (0 : Int)) K = vl3 u0 u2 u2 s1 0 (fun z => K (u0, z.1, u2, (u2.length : Int), z.2)) :=
  wpx h0 u2 0 s1 Fuel rfl (vby h0)
def wlj (a0 : (List (List dTxn))) (k : ((List dTxn) ⊕ (List dTxn)) → Option Res) : Option Res :=
  vl3 a0 a0 a0 (0 : Int) 0 (fun z24 =>
    vwe z24.1 (Sum.elim (fun y25 =>
      vai ve4 Fuel (.inl (a0, (a0.length : Int), (0 : Int), y25)) (Sum.elim (fun z26 =>
        k (.inl z26.2.2.2)) (fun z27 =>
        k (.inr z27.2.2.2)))) (fun y28 =>
      vai ve4 Fuel (.inr (a0, (a0.length : Int), (0 : Int), y28)) (Sum.elim (fun z29 =>
        k (.inl z29.2.2.2)) (fun z30 =>
        k (.inr z30.2.2.2))))))
theorem w18 {a0 : (List (List dTxn))} (h0 : a0.length < 9223372036854775807) {k : ((List dTxn) ⊕ (List dTxn)) → Option Res} : vry a0 k = wlj a0 k := by
  rw [wje]
  simp only [wcn, wlj, (wp0 h0), Sum.elim_inl, Sum.elim_inr]
def vnp (u0 : (List dTxn)) (u1 : Int) : List dTxn → Int → Int → Int → Int → (List van) → (List vam) → Bool → ByteArray → Nat → (((Int × Int × Int × Int × Int × Int × (List van) × (List vam) × Bool × ByteArray) ⊕ q58T) → Option Res) → Option Res
  | [], s4, s5, s6, s7, s8, s9, s10, s11, i, k =>
    k (.inr ((i : Int), s4, s5, s6, s7, s8, s9, s10, s11))
  | y :: l, s4, s5, s6, s7, s8, s9, s10, s11, i, k =>
    vwk y s4 s5 s6 s7 s8 s9 s10 s11 (fun y1 =>
      bif y1.1 then
        k (.inl ((i : Int), (i : Int), y1.2.1, y1.2.2.1, y1.2.2.2.1, y1.2.2.2.2.1, y1.2.2.2.2.2.1, y1.2.2.2.2.2.2.1, y1.2.2.2.2.2.2.2.1, y1.2.2.2.2.2.2.2.2))
      else
        vnp u0 u1 l y1.2.1 y1.2.2.1 y1.2.2.2.1 y1.2.2.2.2.1 y1.2.2.2.2.2.1 y1.2.2.2.2.2.2.1 y1.2.2.2.2.2.2.2.1 y1.2.2.2.2.2.2.2.2 (i + 1) k)
theorem wq4 {u0} {u1} (h0 : u0.length < 9223372036854775807) {K : (q6T ⊕ q6T) → Option Res} : ∀ (l : List dTxn) (i : Nat) (s4 : Int) (s5 : Int) (s6 : Int) (s7 : Int) (s8 : (List van)) (s9 : (List vam)) (s10 : Bool) (s11 : ByteArray) (n : Nat), u0.drop i = l → l.length < n → vai vlx n (u0, u1, (u0.length : Int), (i : Int), s4, s5, s6, s7, s8, s9, s10, s11) K = vnp u0 u1 l s4 s5 s6 s7 s8 s9 s10 s11 i (Sum.elim (fun z => K (.inl (u0, z.1, (u0.length : Int), z.2.1, z.2.2.1, z.2.2.2.1, z.2.2.2.2.1, z.2.2.2.2.2.1, z.2.2.2.2.2.2.1, z.2.2.2.2.2.2.2.1, z.2.2.2.2.2.2.2.2.1, z.2.2.2.2.2.2.2.2.2))) (fun z => K (.inr (u0, u1, (u0.length : Int), z.1, z.2.1, z.2.2.1, z.2.2.2.1, z.2.2.2.2.1, z.2.2.2.2.2.1, z.2.2.2.2.2.2.1, z.2.2.2.2.2.2.2.1, z.2.2.2.2.2.2.2.2)))) := by
  intro l
  induction l with
  | nil =>
    intro i s4 s5 s6 s7 s8 s9 s10 s11 n hd hn
    have hge := vcd hd
    cases n with
    | zero => exact absurd hn (Nat.not_lt_zero _)
    | succ n => simp only [vai, vlx, vnp, hge, decide_false, cond_false, Sum.elim_inr, Sum.elim_inl]
  | cons y l ih =>
    intro i s4 s5 s6 s7 s8 s9 s10 s11 n hd hn
    obtain ⟨hlt, hz, hd2, hw, hnn⟩ := vbt hd h0
    have hy := va8 hd
    cases n with
    | zero => exact absurd hn (Nat.not_lt_zero _)
    | succ n =>
      have ih2 := fun (s4 : Int) (s5 : Int) (s6 : Int) (s7 : Int) (s8 : (List van)) (s9 : (List vam)) (s10 : Bool) (s11 : ByteArray) => ih (i + 1) s4 s5 s6 s7 s8 s9 s10 s11 n hd2 (Nat.lt_of_succ_lt_succ hn)
      simp only [vai, vlx, vnp, hlt, hz, decide_true, cond_true, and_self, if_true, hy, hw, hnn, Sum.elim_inl, Sum.elim_inr, ih2]
theorem wo4 {u0} {u1} (h0 : u0.length < 9223372036854775807) {K : (q6T ⊕ q6T) → Option Res} {s4 : Int} {s5 : Int} {s6 : Int} {s7 : Int} {s8 : (List van)} {s9 : (List vam)} {s10 : Bool} {s11 : ByteArray} : vai vlx Fuel (u0, u1, (u0.length : Int), (0 : Int), s4, s5, s6, s7, s8, s9, s10, s11) K = vnp u0 u1 u0 s4 s5 s6 s7 s8 s9 s10 s11 0 (Sum.elim (fun z => K (.inl (u0, z.1, (u0.length : Int), z.2.1, z.2.2.1, z.2.2.2.1, z.2.2.2.2.1, z.2.2.2.2.2.1, z.2.2.2.2.2.2.1, z.2.2.2.2.2.2.2.1, z.2.2.2.2.2.2.2.2.1, z.2.2.2.2.2.2.2.2.2))) (fun z => K (.inr (u0, u1, (u0.length : Int), z.1, z.2.1, z.2.2.1, z.2.2.2.1, z.2.2.2.2.1, z.2.2.2.2.2.1, z.2.2.2.2.2.2.1, z.2.2.2.2.2.2.2.1, z.2.2.2.2.2.2.2.2)))) :=
  wq4 h0 u0 0 s4 s5 s6 s7 s8 s9 s10 s11 Fuel rfl (vby h0)
def wlv (a0 : (List dTxn)) (a1 : Int) (a2 : Int) (a3 : Int) (a4 : Int) (a5 : (List van)) (a6 : (List vam)) (a7 : Bool) (a8 : ByteArray) (k : q58T → Option Res) : Option Res :=
  vnp a0 (0 : Int) a0 a1 a2 a3 a4 a5 a6 a7 a8 0 (Sum.elim (fun z24 =>
    k (z24.1, z24.2.2.1, z24.2.2.2.1, z24.2.2.2.2.1, z24.2.2.2.2.2.1, z24.2.2.2.2.2.2.1, z24.2.2.2.2.2.2.2.1, z24.2.2.2.2.2.2.2.2.1, z24.2.2.2.2.2.2.2.2.2)) (fun z25 =>
    k ((-1 : Int), z25.2.1, z25.2.2.1, z25.2.2.2.1, z25.2.2.2.2.1, z25.2.2.2.2.2.1, z25.2.2.2.2.2.2.1, z25.2.2.2.2.2.2.2.1, z25.2.2.2.2.2.2.2.2)))
theorem w1r {a0 : (List dTxn)} {a1 : Int} {a2 : Int} {a3 : Int} {a4 : Int} {a5 : (List van)} {a6 : (List vam)} {a7 : Bool} {a8 : ByteArray} (h0 : a0.length < 9223372036854775807) {k : q58T → Option Res} : v1y a0 a1 a2 a3 a4 a5 a6 a7 a8 k = wlv a0 a1 a2 a3 a4 a5 a6 a7 a8 k := by
  rw [wi5]
  simp only [weh, wlv, (wo4 h0), Sum.elim_inl, Sum.elim_inr]
def vng (u0 : (List dTxn)) (u1 : Int) (u2 : Bool) (u3 : (List dTxn)) : List dTxn → Nat → (((Bool × Int) ⊕ Int) → Option Res) → Option Res
  | [], i, k =>
    k (.inr (i : Int))
  | y :: l, i, k =>
    bif (decide (y.1 ≥ u1)) then
      k (.inl (false, (i : Int)))
    else
      if 0 ≤ (0 : Int) ∧ (0 : Int) ≤ (i : Int) ∧ (i : Int) ≤ (u0.length : Int) then
        vxp ((u0.take (i : Int).toNat).drop (0 : Int).toNat) y.1 y.2.1 y.2.2.1 y.2.2.2.1 y.2.2.2.2.1 y.2.2.2.2.2.1 y.2.2.2.2.2.2.1 y.2.2.2.2.2.2.2 (fun y1 =>
          bif y1.1 then
            k (.inl (false, (i : Int)))
          else
            vng u0 u1 u2 u3 l (i + 1) k)
      else none
theorem wqz {u0} {u1} {u2} {u3} (h0 : u3.length < 9223372036854775807) {K : (q5T ⊕ q5T) → Option Res} : ∀ (l : List dTxn) (i : Nat)  (n : Nat), u3.drop i = l → l.length < n → vai vlb n (u0, u1, u2, u3, (u3.length : Int), (i : Int)) K = vng u0 u1 u2 u3 l  i (Sum.elim (fun z => K (.inl (u0, u1, z.1, u3, (u3.length : Int), z.2))) (fun z => K (.inr (u0, u1, u2, u3, (u3.length : Int), z)))) := by
  intro l
  induction l with
  | nil =>
    intro i  n hd hn
    have hge := vcd hd
    cases n with
    | zero => exact absurd hn (Nat.not_lt_zero _)
    | succ n => simp only [vai, vlb, vng, hge, decide_false, cond_false, Sum.elim_inr, Sum.elim_inl]
  | cons y l ih =>
    intro i  n hd hn
    obtain ⟨hlt, hz, hd2, hw, hnn⟩ := vbt hd h0
    have hy := va8 hd
    cases n with
    | zero => exact absurd hn (Nat.not_lt_zero _)
    | succ n =>
      have ih2 := ih (i + 1)  n hd2 (Nat.lt_of_succ_lt_succ hn)
      simp only [vai, vlb, vng, hlt, hz, decide_true, cond_true, and_self, if_true, hy, hw, hnn, Sum.elim_inl, Sum.elim_inr, ih2]
theorem wr9 {u0} {u1} {u2} {u3} (h0 : u3.length < 9223372036854775807) {K : (q5T ⊕ q5T) → Option Res}  : vai vlb Fuel (u0, u1, u2, u3, (u3.length : Int), (0 : Int)) K = vng u0 u1 u2 u3 u3  0 (Sum.elim (fun z => K (.inl (u0, u1, z.1, u3, (u3.length : Int), z.2))) (fun z => K (.inr (u0, u1, u2, u3, (u3.length : Int), z)))) :=
  wqz h0 u3 0  Fuel rfl (vby h0)
def wkw (a0 : (List dTxn)) (a1 : Int) (k : Bool → Option Res) : Option Res :=
  vng a0 a1 false a0 a0  0 (Sum.elim (fun z24 =>
    k z24.1) (fun _ =>
    k true))
theorem wwq {a0 : (List dTxn)} {a1 : Int} (h0 : a0.length < 9223372036854775807) {k : Bool → Option Res} : vog a0 a1 k = wkw a0 a1 k := by
  rw [wjh]
  simp only [wdm, wkw, (wr9 h0), Sum.elim_inl, Sum.elim_inr]
def vnd (u0 : Bool) (u1 : (List vac)) (u4 : (List vac)) (u5 : (List dTxn)) (u6 : (List dTxn)) (u7 : Int) (u8 : Int) : List vac → Nat → (((Bool × Int) ⊕ Int) → Option Res) → Option Res
  | [], i, k =>
    k (.inr (i : Int))
  | y :: l, i, k =>
    bif (decide (y.2.2.2 > u7)) then
      k (.inl (false, (i : Int)))
    else
      vnd u0 u1 u4 u5 u6 u7 u8 l (i + 1) k
theorem woj {u0} {u1} {u4} {u5} {u6} {u7} {u8} (h0 : u1.length < 9223372036854775807) {K : (q18T ⊕ q18T) → Option Res} : ∀ (l : List vac) (i : Nat)  (n : Nat), u1.drop i = l → l.length < n → vai vk6 n (u0, u1, (u1.length : Int), (i : Int), u4, u5, u6, u7, u8) K = vnd u0 u1 u4 u5 u6 u7 u8 l  i (Sum.elim (fun z => K (.inl (z.1, u1, (u1.length : Int), z.2, u4, u5, u6, u7, u8))) (fun z => K (.inr (u0, u1, (u1.length : Int), z, u4, u5, u6, u7, u8)))) := by
  intro l
  induction l with
  | nil =>
    intro i  n hd hn
    have hge := vcd hd
    cases n with
    | zero => exact absurd hn (Nat.not_lt_zero _)
    | succ n => simp only [vai, vk6, vnd, hge, decide_false, cond_false, Sum.elim_inr, Sum.elim_inl]
  | cons y l ih =>
    intro i  n hd hn
    obtain ⟨hlt, hz, hd2, hw, hnn⟩ := vbt hd h0
    have hy := va8 hd
    cases n with
    | zero => exact absurd hn (Nat.not_lt_zero _)
    | succ n =>
      have ih2 := ih (i + 1)  n hd2 (Nat.lt_of_succ_lt_succ hn)
      simp only [vai, vk6, vnd, hlt, hz, decide_true, cond_true, and_self, if_true, hy, hw, hnn, Sum.elim_inl, Sum.elim_inr, ih2]
theorem wn4 {u0} {u1} {u4} {u5} {u6} {u7} {u8} (h0 : u1.length < 9223372036854775807) {K : (q18T ⊕ q18T) → Option Res}  : vai vk6 Fuel (u0, u1, (u1.length : Int), (0 : Int), u4, u5, u6, u7, u8) K = vnd u0 u1 u4 u5 u6 u7 u8 u1  0 (Sum.elim (fun z => K (.inl (z.1, u1, (u1.length : Int), z.2, u4, u5, u6, u7, u8))) (fun z => K (.inr (u0, u1, (u1.length : Int), z, u4, u5, u6, u7, u8)))) :=
  woj h0 u1 0  Fuel rfl (vby h0)
def vkn (u0 : Bool) (u1 : (List dTxn)) (u4 : (List vac)) (u5 : (List dTxn)) (u6 : (List dTxn)) (u7 : Int) (u8 : Int) : List dTxn → Nat → (((Bool × Int) ⊕ Int) → Option Res) → Option Res
  | [], i, k =>
    k (.inr (i : Int))
  | y :: l, i, k =>
    vnm y (fun y1 =>
      bif (!y1) then
        k (.inl (false, (i : Int)))
      else
        vwd y (fun y2 =>
          bif (!y2) then
            k (.inl (false, (i : Int)))
          else
            bif (decide (y.2.2.2.1 > u7)) then
              k (.inl (false, (i : Int)))
            else
              bif (decide ((i : Int) > (0 : Int))) then
                if 0 ≤ (IntKind.wrap .i64 ((i : Int) - (1 : Int))) ∧ (IntKind.wrap .i64 ((i : Int) - (1 : Int))) < (u5.length : Int) then
                  bif (decide ((rd (Ty.zero tTxn) u5 (IntKind.wrap .i64 ((i : Int) - (1 : Int)))).2.2.2.1 ≥ y.2.2.2.1)) then
                    k (.inl (false, (i : Int)))
                  else
                    vkn u0 u1 u4 u5 u6 u7 u8 l (i + 1) k
                else none
              else
                vkn u0 u1 u4 u5 u6 u7 u8 l (i + 1) k))
theorem wpk {u0} {u1} {u4} {u5} {u6} {u7} {u8} (h0 : u1.length < 9223372036854775807) {K : (q16T ⊕ q16T) → Option Res} : ∀ (l : List dTxn) (i : Nat)  (n : Nat), u1.drop i = l → l.length < n → vai vlk n (u0, u1, (u1.length : Int), (i : Int), u4, u5, u6, u7, u8) K = vkn u0 u1 u4 u5 u6 u7 u8 l  i (Sum.elim (fun z => K (.inl (z.1, u1, (u1.length : Int), z.2, u4, u5, u6, u7, u8))) (fun z => K (.inr (u0, u1, (u1.length : Int), z, u4, u5, u6, u7, u8)))) := by
  intro l
  induction l with
  | nil =>
    intro i  n hd hn
    have hge := vcd hd
    cases n with
    | zero => exact absurd hn (Nat.not_lt_zero _)
    | succ n => simp only [vai, vlk, vkn, hge, decide_false, cond_false, Sum.elim_inr, Sum.elim_inl]
  | cons y l ih =>
    intro i  n hd hn
    obtain ⟨hlt, hz, hd2, hw, hnn⟩ := vbt hd h0
    have hy := va8 hd
    cases n with
    | zero => exact absurd hn (Nat.not_lt_zero _)
    | succ n =>
      have ih2 := ih (i + 1)  n hd2 (Nat.lt_of_succ_lt_succ hn)
      simp only [vai, vlk, vkn, hlt, hz, decide_true, cond_true, and_self, if_true, hy, hw, hnn, Sum.elim_inl, Sum.elim_inr, ih2]
theorem wsq {u0} {u1} {u4} {u5} {u6} {u7} {u8} (h0 : u1.length < 9223372036854775807) {K : (q16T ⊕ q16T) → Option Res}  : vai vlk Fuel (u0, u1, (u1.length : Int), (0 : Int), u4, u5, u6, u7, u8) K = vkn u0 u1 u4 u5 u6 u7 u8 u1  0 (Sum.elim (fun z => K (.inl (z.1, u1, (u1.length : Int), z.2, u4, u5, u6, u7, u8))) (fun z => K (.inr (u0, u1, (u1.length : Int), z, u4, u5, u6, u7, u8)))) :=
  wpk h0 u1 0  Fuel rfl (vby h0)
def vk4 (u0 : Bool) (u1 : (List dTxn)) (u4 : (List vac)) (u5 : (List dTxn)) (u6 : (List dTxn)) (u7 : Int) (u8 : Int) : List dTxn → Nat → (((Bool × Int) ⊕ Int) → Option Res) → Option Res
  | [], i, k =>
    k (.inr (i : Int))
  | y :: l, i, k =>
    vnm y (fun y1 =>
      bif (!y1) then
        k (.inl (false, (i : Int)))
      else
        vw2 y (fun y2 =>
          bif (!y2) then
            k (.inl (false, (i : Int)))
          else
            bif (decide (y.2.2.1 > u7)) then
              k (.inl (false, (i : Int)))
            else
              bif (decide ((i : Int) > (0 : Int))) then
                if 0 ≤ (IntKind.wrap .i64 ((i : Int) - (1 : Int))) ∧ (IntKind.wrap .i64 ((i : Int) - (1 : Int))) < (u6.length : Int) then
                  bif (!(va2 ((rd (Ty.zero tTxn) u6 (IntKind.wrap .i64 ((i : Int) - (1 : Int)))).2.2.2.2.2.2.2) (y.2.2.2.2.2.2.2))) then
                    k (.inl (false, (i : Int)))
                  else
                    vk4 u0 u1 u4 u5 u6 u7 u8 l (i + 1) k
                else none
              else
                vk4 u0 u1 u4 u5 u6 u7 u8 l (i + 1) k))
theorem wo6 {u0} {u1} {u4} {u5} {u6} {u7} {u8} (h0 : u1.length < 9223372036854775807) {K : (q16T ⊕ q16T) → Option Res} : ∀ (l : List dTxn) (i : Nat)  (n : Nat), u1.drop i = l → l.length < n → vai vku n (u0, u1, (u1.length : Int), (i : Int), u4, u5, u6, u7, u8) K = vk4 u0 u1 u4 u5 u6 u7 u8 l  i (Sum.elim (fun z => K (.inl (z.1, u1, (u1.length : Int), z.2, u4, u5, u6, u7, u8))) (fun z => K (.inr (u0, u1, (u1.length : Int), z, u4, u5, u6, u7, u8)))) := by
  intro l
  induction l with
  | nil =>
    intro i  n hd hn
    have hge := vcd hd
    cases n with
    | zero => exact absurd hn (Nat.not_lt_zero _)
    | succ n => simp only [vai, vku, vk4, hge, decide_false, cond_false, Sum.elim_inr, Sum.elim_inl]
  | cons y l ih =>
    intro i  n hd hn
    obtain ⟨hlt, hz, hd2, hw, hnn⟩ := vbt hd h0
    have hy := va8 hd
    cases n with
    | zero => exact absurd hn (Nat.not_lt_zero _)
    | succ n =>
      have ih2 := ih (i + 1)  n hd2 (Nat.lt_of_succ_lt_succ hn)
      simp only [vai, vku, vk4, hlt, hz, decide_true, cond_true, and_self, if_true, hy, hw, hnn, Sum.elim_inl, Sum.elim_inr, ih2]
theorem wqh {u0} {u1} {u4} {u5} {u6} {u7} {u8} (h0 : u1.length < 9223372036854775807) {K : (q16T ⊕ q16T) → Option Res}  : vai vku Fuel (u0, u1, (u1.length : Int), (0 : Int), u4, u5, u6, u7, u8) K = vk4 u0 u1 u4 u5 u6 u7 u8 u1  0 (Sum.elim (fun z => K (.inl (z.1, u1, (u1.length : Int), z.2, u4, u5, u6, u7, u8))) (fun z => K (.inr (u0, u1, (u1.length : Int), z, u4, u5, u6, u7, u8)))) :=
  wo6 h0 u1 0  Fuel rfl (vby h0)
def vhg (u0 : Bool) (u1 : (List vac)) (u2 : (List dTxn)) (u3 : (List dTxn)) (u4 : Int) (u5 : Int) (k : Bool → Option Res) : Option Res :=
    vnd u0 u1 u1 u2 u3 u4 u5 u1  0 (Sum.elim (fun z1 =>
      k z1.1) (fun _ =>
      vkn u0 u2 u1 u2 u3 u4 u5 u2  0 (Sum.elim (fun z3 =>
        k z3.1) (fun _ =>
        vk4 u0 u3 u1 u2 u3 u4 u5 u3  0 (Sum.elim (fun z5 =>
          k z5.1) (fun _ =>
          vry [u2, u3] (Sum.elim (fun y7 =>
            vog y7 u5 (fun y8 =>
              k y8)) (fun y9 =>
            vog y9 u5 (fun y10 =>
              k y10)))))))))
theorem vz8 {u0} {u1} {u2} {u3} {u4} {u5} (h0 : u3.length < 9223372036854775807) (h1 : u2.length < 9223372036854775807) (h2 : u1.length < 9223372036854775807) {K : q17T → Option Res} : vdm (u0, u1, u2, u3, u4, u5) K = vhg u0 u1 u2 u3 u4 u5 (fun z => K (z, u1, u2, u3, u4, u5)) := by
  simp only [vdm, vhg, (wqh h0), (wsq h1), (wn4 h2), Sum.elim_inl, Sum.elim_inr]
def whg (a0 : vn7) (k : Bool → Option Res) : Option Res :=
  vu7 a0.1 (fun y24 =>
    bif (!y24) then
      k false
    else
      bif (decide ((a0.2.1.length : Int) > (12 : Int))) then
        k false
      else
        bif (decide ((a0.2.2.1.length : Int) > (3 : Int))) then
          k false
        else
          vdb a0.2.2.2.1 (0 : Int) (9999 : Int) (fun y25 =>
            bif (!y25) then
              k false
            else
              vdb a0.2.2.2.2 (1 : Int) (9999 : Int) (fun y26 =>
                bif (!y26) then
                  k false
                else
                  vhg false a0.1 a0.2.1 a0.2.2.1 a0.2.2.2.1 a0.2.2.2.2 (fun z27 =>
                    k z27))))
theorem w01 {a0 : vn7} (h0 : a0.2.2.1.length < 9223372036854775807) (h1 : a0.2.1.length < 9223372036854775807) (h2 : a0.1.length < 9223372036854775807) {k : Bool → Option Res} : vw7 a0 k = whg a0 k := by
  rw [wib]
  simp only [wey, whg, (vz8 h0 h1 h2), Sum.elim_inl, Sum.elim_inr]
def vm6 (u0 : (List vac)) (u1 : (List vac)) (u2 : Bool) : List vac → Nat → (((Bool × Int) ⊕ Int) → Option Res) → Option Res
  | [], i, k =>
    k (.inr (i : Int))
  | y :: l, i, k =>
    if 0 ≤ (i : Int) ∧ (i : Int) < (u1.length : Int) then
      vxi y (rd (Ty.zero tVersion) u1 (i : Int)) (fun y1 =>
        bif (!y1) then
          k (.inl (false, (i : Int)))
        else
          vm6 u0 u1 u2 l (i + 1) k)
    else none
theorem wqs {u0} {u1} {u2} (h0 : u0.length < 9223372036854775807) {K : (q8T ⊕ q8T) → Option Res} : ∀ (l : List vac) (i : Nat)  (n : Nat), u0.drop i = l → l.length < n → vai vk8 n (u0, u1, u2, (i : Int)) K = vm6 u0 u1 u2 l  i (Sum.elim (fun z => K (.inl (u0, u1, z.1, z.2))) (fun z => K (.inr (u0, u1, u2, z)))) := by
  intro l
  induction l with
  | nil =>
    intro i  n hd hn
    have hge := vcd hd
    cases n with
    | zero => exact absurd hn (Nat.not_lt_zero _)
    | succ n => simp only [vai, vk8, vm6, hge, decide_false, cond_false, Sum.elim_inr, Sum.elim_inl]
  | cons y l ih =>
    intro i  n hd hn
    obtain ⟨hlt, hz, hd2, hw, hnn⟩ := vbt hd h0
    have hy := va8 hd
    cases n with
    | zero => exact absurd hn (Nat.not_lt_zero _)
    | succ n =>
      have ih2 := ih (i + 1)  n hd2 (Nat.lt_of_succ_lt_succ hn)
      simp only [vai, vk8, vm6, hlt, hz, decide_true, cond_true, and_self, if_true, hy, hw, hnn, Sum.elim_inl, Sum.elim_inr, ih2]
theorem wrj {u0} {u1} {u2} (h0 : u0.length < 9223372036854775807) {K : (q8T ⊕ q8T) → Option Res}  : vai vk8 Fuel (u0, u1, u2, (0 : Int)) K = vm6 u0 u1 u2 u0  0 (Sum.elim (fun z => K (.inl (u0, u1, z.1, z.2))) (fun z => K (.inr (u0, u1, u2, z)))) :=
  wqs h0 u0 0  Fuel rfl (vby h0)
def wjj (a0 : (List vac)) (a1 : (List vac)) (k : Bool → Option Res) : Option Res :=
  bif ((a0.length : Int) != (a1.length : Int)) then
    k false
  else
    vm6 a0 a1 false a0  0 (Sum.elim (fun z24 =>
      k z24.1) (fun _ =>
      k true))
theorem w3c {a0 : (List vac)} {a1 : (List vac)} (h0 : a0.length < 9223372036854775807) {k : Bool → Option Res} : vwi a0 a1 k = wjj a0 a1 k := by
  rw [wl6]
  simp only [wda, wjj, (wrj h0), Sum.elim_inl, Sum.elim_inr]
def vm9 (u0 : (List van)) (u1 : (List van)) (u2 : Bool) : List van → Nat → (((Bool × Int) ⊕ Int) → Option Res) → Option Res
  | [], i, k =>
    k (.inr (i : Int))
  | y :: l, i, k =>
    if 0 ≤ (i : Int) ∧ (i : Int) < (u1.length : Int) then
      vw1 y (rd (Ty.zero tRange) u1 (i : Int)) (fun y1 =>
        bif (!y1) then
          k (.inl (false, (i : Int)))
        else
          vm9 u0 u1 u2 l (i + 1) k)
    else none
theorem wp3 {u0} {u1} {u2} (h0 : u0.length < 9223372036854775807) {K : (q2T ⊕ q2T) → Option Res} : ∀ (l : List van) (i : Nat)  (n : Nat), u0.drop i = l → l.length < n → vai vko n (u0, u1, u2, (i : Int)) K = vm9 u0 u1 u2 l  i (Sum.elim (fun z => K (.inl (u0, u1, z.1, z.2))) (fun z => K (.inr (u0, u1, u2, z)))) := by
  intro l
  induction l with
  | nil =>
    intro i  n hd hn
    have hge := vcd hd
    cases n with
    | zero => exact absurd hn (Nat.not_lt_zero _)
    | succ n => simp only [vai, vko, vm9, hge, decide_false, cond_false, Sum.elim_inr, Sum.elim_inl]
  | cons y l ih =>
    intro i  n hd hn
    obtain ⟨hlt, hz, hd2, hw, hnn⟩ := vbt hd h0
    have hy := va8 hd
    cases n with
    | zero => exact absurd hn (Nat.not_lt_zero _)
    | succ n =>
      have ih2 := ih (i + 1)  n hd2 (Nat.lt_of_succ_lt_succ hn)
      simp only [vai, vko, vm9, hlt, hz, decide_true, cond_true, and_self, if_true, hy, hw, hnn, Sum.elim_inl, Sum.elim_inr, ih2]
theorem wpv {u0} {u1} {u2} (h0 : u0.length < 9223372036854775807) {K : (q2T ⊕ q2T) → Option Res}  : vai vko Fuel (u0, u1, u2, (0 : Int)) K = vm9 u0 u1 u2 u0  0 (Sum.elim (fun z => K (.inl (u0, u1, z.1, z.2))) (fun z => K (.inr (u0, u1, u2, z)))) :=
  wp3 h0 u0 0  Fuel rfl (vby h0)
def wjz (a0 : (List van)) (a1 : (List van)) (k : Bool → Option Res) : Option Res :=
  bif ((a0.length : Int) != (a1.length : Int)) then
    k false
  else
    vm9 a0 a1 false a0  0 (Sum.elim (fun z24 =>
      k z24.1) (fun _ =>
      k true))
theorem wx4 {a0 : (List van)} {a1 : (List van)} (h0 : a0.length < 9223372036854775807) {k : Bool → Option Res} : vwu a0 a1 k = wjz a0 a1 k := by
  rw [wiu]
  simp only [wdf, wjz, (wpv h0), Sum.elim_inl, Sum.elim_inr]
def vnf (u0 : (List vam)) (u1 : (List vam)) (u2 : Bool) : List vam → Nat → (((Bool × Int) ⊕ Int) → Option Res) → Option Res
  | [], i, k =>
    k (.inr (i : Int))
  | y :: l, i, k =>
    if 0 ≤ (i : Int) ∧ (i : Int) < (u1.length : Int) then
      vwb y (rd (Ty.zero tWrite) u1 (i : Int)) (fun y1 =>
        bif (!y1) then
          k (.inl (false, (i : Int)))
        else
          vnf u0 u1 u2 l (i + 1) k)
    else none
theorem wpr {u0} {u1} {u2} (h0 : u0.length < 9223372036854775807) {K : (q12T ⊕ q12T) → Option Res} : ∀ (l : List vam) (i : Nat)  (n : Nat), u0.drop i = l → l.length < n → vai vl2 n (u0, u1, u2, (i : Int)) K = vnf u0 u1 u2 l  i (Sum.elim (fun z => K (.inl (u0, u1, z.1, z.2))) (fun z => K (.inr (u0, u1, u2, z)))) := by
  intro l
  induction l with
  | nil =>
    intro i  n hd hn
    have hge := vcd hd
    cases n with
    | zero => exact absurd hn (Nat.not_lt_zero _)
    | succ n => simp only [vai, vl2, vnf, hge, decide_false, cond_false, Sum.elim_inr, Sum.elim_inl]
  | cons y l ih =>
    intro i  n hd hn
    obtain ⟨hlt, hz, hd2, hw, hnn⟩ := vbt hd h0
    have hy := va8 hd
    cases n with
    | zero => exact absurd hn (Nat.not_lt_zero _)
    | succ n =>
      have ih2 := ih (i + 1)  n hd2 (Nat.lt_of_succ_lt_succ hn)
      simp only [vai, vl2, vnf, hlt, hz, decide_true, cond_true, and_self, if_true, hy, hw, hnn, Sum.elim_inl, Sum.elim_inr, ih2]
theorem wp2 {u0} {u1} {u2} (h0 : u0.length < 9223372036854775807) {K : (q12T ⊕ q12T) → Option Res}  : vai vl2 Fuel (u0, u1, u2, (0 : Int)) K = vnf u0 u1 u2 u0  0 (Sum.elim (fun z => K (.inl (u0, u1, z.1, z.2))) (fun z => K (.inr (u0, u1, u2, z)))) :=
  wpr h0 u0 0  Fuel rfl (vby h0)
def wj2 (a0 : (List vam)) (a1 : (List vam)) (k : Bool → Option Res) : Option Res :=
  bif ((a0.length : Int) != (a1.length : Int)) then
    k false
  else
    vnf a0 a1 false a0  0 (Sum.elim (fun z24 =>
      k z24.1) (fun _ =>
      k true))
theorem wyu {a0 : (List vam)} {a1 : (List vam)} (h0 : a0.length < 9223372036854775807) {k : Bool → Option Res} : vv9 a0 a1 k = wj2 a0 a1 k := by
  rw [wlc]
  simp only [wd3, wj2, (wp2 h0), Sum.elim_inl, Sum.elim_inr]
def vms (u0 : (List dTxn)) (u1 : (List dTxn)) (u2 : Bool) : List dTxn → Nat → (((Bool × Int) ⊕ Int) → Option Res) → Option Res
  | [], i, k =>
    k (.inr (i : Int))
  | y :: l, i, k =>
    if 0 ≤ (i : Int) ∧ (i : Int) < (u1.length : Int) then
      vux y (rd (Ty.zero tTxn) u1 (i : Int)) (fun y1 =>
        bif (!y1) then
          k (.inl (false, (i : Int)))
        else
          vms u0 u1 u2 l (i + 1) k)
    else none
theorem wqy {u0} {u1} {u2} (h0 : u0.length < 9223372036854775807) {K : (q4T ⊕ q4T) → Option Res} : ∀ (l : List dTxn) (i : Nat)  (n : Nat), u0.drop i = l → l.length < n → vai vks n (u0, u1, u2, (i : Int)) K = vms u0 u1 u2 l  i (Sum.elim (fun z => K (.inl (u0, u1, z.1, z.2))) (fun z => K (.inr (u0, u1, u2, z)))) := by
  intro l
  induction l with
  | nil =>
    intro i  n hd hn
    have hge := vcd hd
    cases n with
    | zero => exact absurd hn (Nat.not_lt_zero _)
    | succ n => simp only [vai, vks, vms, hge, decide_false, cond_false, Sum.elim_inr, Sum.elim_inl]
  | cons y l ih =>
    intro i  n hd hn
    obtain ⟨hlt, hz, hd2, hw, hnn⟩ := vbt hd h0
    have hy := va8 hd
    cases n with
    | zero => exact absurd hn (Nat.not_lt_zero _)
    | succ n =>
      have ih2 := ih (i + 1)  n hd2 (Nat.lt_of_succ_lt_succ hn)
      simp only [vai, vks, vms, hlt, hz, decide_true, cond_true, and_self, if_true, hy, hw, hnn, Sum.elim_inl, Sum.elim_inr, ih2]
theorem wq1 {u0} {u1} {u2} (h0 : u0.length < 9223372036854775807) {K : (q4T ⊕ q4T) → Option Res}  : vai vks Fuel (u0, u1, u2, (0 : Int)) K = vms u0 u1 u2 u0  0 (Sum.elim (fun z => K (.inl (u0, u1, z.1, z.2))) (fun z => K (.inr (u0, u1, u2, z)))) :=
  wqy h0 u0 0  Fuel rfl (vby h0)
def wh6 (a0 : (List dTxn)) (a1 : (List dTxn)) (k : Bool → Option Res) : Option Res :=
  bif ((a0.length : Int) != (a1.length : Int)) then
    k false
  else
    vms a0 a1 false a0  0 (Sum.elim (fun z24 =>
      k z24.1) (fun _ =>
      k true))
theorem wz9 {a0 : (List dTxn)} {a1 : (List dTxn)} (h0 : a0.length < 9223372036854775807) {k : Bool → Option Res} : vut a0 a1 k = wh6 a0 a1 k := by
  rw [wiv]
  simp only [wfj, wh6, (wq1 h0), Sum.elim_inl, Sum.elim_inr]
def vkx (u0 : (List vac)) (u2 : Int) : List vac → Int → Nat → (((Int × Int × Int) ⊕ (Int × Int)) → Option Res) → Option Res
  | [], s1, i, k =>
    k (.inr (s1, (i : Int)))
  | y :: l, s1, i, k =>
    vcp s1 (fun y1 =>
      bif (!(va9 (y.1) y1)) then
        k (.inl (s1, (-1 : Int), (i : Int)))
      else
        vcp (IntKind.wrap .i64 (s1 + (1 : Int))) (fun y2 =>
          bif (!(va9 (y.2.1) y2)) then
            k (.inl ((IntKind.wrap .i64 (s1 + (1 : Int))), (-1 : Int), (i : Int)))
          else
            bif (!(y.2.2.1 == (((IntKind.wrap .i64 ((IntKind.wrap .i64 (s1 + (1 : Int))) + (1 : Int))).tmod (3 : Int)) == (0 : Int)))) then
              k (.inl ((IntKind.wrap .i64 ((IntKind.wrap .i64 (s1 + (1 : Int))) + (1 : Int))), (-1 : Int), (i : Int)))
            else
              bif (y.2.2.2 != (IntKind.wrap .i64 ((IntKind.wrap .i64 ((IntKind.wrap .i64 (s1 + (1 : Int))) + (1 : Int))) + (1 : Int)))) then
                k (.inl ((IntKind.wrap .i64 ((IntKind.wrap .i64 ((IntKind.wrap .i64 (s1 + (1 : Int))) + (1 : Int))) + (1 : Int))), (-1 : Int), (i : Int)))
              else
                vkx u0 u2 l (IntKind.wrap .i64 ((IntKind.wrap .i64 ((IntKind.wrap .i64 ((IntKind.wrap .i64 (s1 + (1 : Int))) + (1 : Int))) + (1 : Int))) + (1 : Int))) (i + 1) k))
theorem wpu {u0} {u2} (h0 : u0.length < 9223372036854775807) {K : (q11T ⊕ q11T) → Option Res} : ∀ (l : List vac) (i : Nat) (s1 : Int) (n : Nat), u0.drop i = l → l.length < n → vai vkk n (u0, s1, u2, (i : Int)) K = vkx u0 u2 l s1 i (Sum.elim (fun z => K (.inl (u0, z.1, z.2.1, z.2.2))) (fun z => K (.inr (u0, z.1, u2, z.2)))) := by
  intro l
  induction l with
  | nil =>
    intro i s1 n hd hn
    have hge := vcd hd
    cases n with
    | zero => exact absurd hn (Nat.not_lt_zero _)
    | succ n => simp only [vai, vkk, vkx, hge, decide_false, cond_false, Sum.elim_inr, Sum.elim_inl]
  | cons y l ih =>
    intro i s1 n hd hn
    obtain ⟨hlt, hz, hd2, hw, hnn⟩ := vbt hd h0
    have hy := va8 hd
    cases n with
    | zero => exact absurd hn (Nat.not_lt_zero _)
    | succ n =>
      have ih2 := fun (s1 : Int) => ih (i + 1) s1 n hd2 (Nat.lt_of_succ_lt_succ hn)
      simp only [vai, vkk, vkx, hlt, hz, decide_true, cond_true, and_self, if_true, hy, hw, hnn, Sum.elim_inl, Sum.elim_inr, ih2]
theorem wn0 {u0} {u2} (h0 : u0.length < 9223372036854775807) {K : (q11T ⊕ q11T) → Option Res} {s1 : Int} : vai vkk Fuel (u0, s1, u2, (0 : Int)) K = vkx u0 u2 u0 s1 0 (Sum.elim (fun z => K (.inl (u0, z.1, z.2.1, z.2.2))) (fun z => K (.inr (u0, z.1, u2, z.2)))) :=
  wpu h0 u0 0 s1 Fuel rfl (vby h0)
def wi7 (a0 : (List vac)) (a1 : Int) (k : Int → Option Res) : Option Res :=
  vkx a0 (0 : Int) a0 a1 0 (Sum.elim (fun z24 =>
    k z24.2.1) (fun z25 =>
    k z25.1))
theorem wxs {a0 : (List vac)} {a1 : Int} (h0 : a0.length < 9223372036854775807) {k : Int → Option Res} : vwf a0 a1 k = wi7 a0 a1 k := by
  rw [wi2]
  simp only [wfg, wi7, (wn0 h0), Sum.elim_inl, Sum.elim_inr]
def vk5 (u0 : (List van)) (u2 : Int) : List van → Int → Nat → (((Int × Int × Int) ⊕ (Int × Int)) → Option Res) → Option Res
  | [], s1, i, k =>
    k (.inr (s1, (i : Int)))
  | y :: l, s1, i, k =>
    vcp s1 (fun y1 =>
      bif (!(va9 (y.1) y1)) then
        k (.inl (s1, (-1 : Int), (i : Int)))
      else
        vcp (IntKind.wrap .i64 (s1 + (1 : Int))) (fun y2 =>
          bif (!(va9 (y.2) y2)) then
            k (.inl ((IntKind.wrap .i64 (s1 + (1 : Int))), (-1 : Int), (i : Int)))
          else
            vk5 u0 u2 l (IntKind.wrap .i64 ((IntKind.wrap .i64 (s1 + (1 : Int))) + (1 : Int))) (i + 1) k))
theorem wrx {u0} {u2} (h0 : u0.length < 9223372036854775807) {K : (q3T ⊕ q3T) → Option Res} : ∀ (l : List van) (i : Nat) (s1 : Int) (n : Nat), u0.drop i = l → l.length < n → vai vkw n (u0, s1, u2, (i : Int)) K = vk5 u0 u2 l s1 i (Sum.elim (fun z => K (.inl (u0, z.1, z.2.1, z.2.2))) (fun z => K (.inr (u0, z.1, u2, z.2)))) := by
  intro l
  induction l with
  | nil =>
    intro i s1 n hd hn
    have hge := vcd hd
    cases n with
    | zero => exact absurd hn (Nat.not_lt_zero _)
    | succ n => simp only [vai, vkw, vk5, hge, decide_false, cond_false, Sum.elim_inr, Sum.elim_inl]
  | cons y l ih =>
    intro i s1 n hd hn
    obtain ⟨hlt, hz, hd2, hw, hnn⟩ := vbt hd h0
    have hy := va8 hd
    cases n with
    | zero => exact absurd hn (Nat.not_lt_zero _)
    | succ n =>
      have ih2 := fun (s1 : Int) => ih (i + 1) s1 n hd2 (Nat.lt_of_succ_lt_succ hn)
      simp only [vai, vkw, vk5, hlt, hz, decide_true, cond_true, and_self, if_true, hy, hw, hnn, Sum.elim_inl, Sum.elim_inr, ih2]
theorem wok {u0} {u2} (h0 : u0.length < 9223372036854775807) {K : (q3T ⊕ q3T) → Option Res} {s1 : Int} : vai vkw Fuel (u0, s1, u2, (0 : Int)) K = vk5 u0 u2 u0 s1 0 (Sum.elim (fun z => K (.inl (u0, z.1, z.2.1, z.2.2))) (fun z => K (.inr (u0, z.1, u2, z.2)))) :=
  wrx h0 u0 0 s1 Fuel rfl (vby h0)
def wjw (a0 : (List van)) (a1 : Int) (k : Int → Option Res) : Option Res :=
  vk5 a0 (0 : Int) a0 a1 0 (Sum.elim (fun z24 =>
    k z24.2.1) (fun z25 =>
    k z25.1))
theorem wzb {a0 : (List van)} {a1 : Int} (h0 : a0.length < 9223372036854775807) {k : Int → Option Res} : vvl a0 a1 k = wjw a0 a1 k := by
  rw [wlr]
  simp only [wcz, wjw, (wok h0), Sum.elim_inl, Sum.elim_inr]
def vln (u0 : (List vam)) (u2 : Int) : List vam → Int → Nat → (((Int × Int × Int) ⊕ (Int × Int)) → Option Res) → Option Res
  | [], s1, i, k =>
    k (.inr (s1, (i : Int)))
  | y :: l, s1, i, k =>
    vcp s1 (fun y1 =>
      bif (!(va9 (y.1) y1)) then
        k (.inl (s1, (-1 : Int), (i : Int)))
      else
        vcp (IntKind.wrap .i64 (s1 + (1 : Int))) (fun y2 =>
          bif (!(va9 (y.2.1) y2)) then
            k (.inl ((IntKind.wrap .i64 (s1 + (1 : Int))), (-1 : Int), (i : Int)))
          else
            bif (!(y.2.2 == (((IntKind.wrap .i64 ((IntKind.wrap .i64 (s1 + (1 : Int))) + (1 : Int))).tmod (3 : Int)) == (0 : Int)))) then
              k (.inl ((IntKind.wrap .i64 ((IntKind.wrap .i64 (s1 + (1 : Int))) + (1 : Int))), (-1 : Int), (i : Int)))
            else
              vln u0 u2 l (IntKind.wrap .i64 ((IntKind.wrap .i64 ((IntKind.wrap .i64 (s1 + (1 : Int))) + (1 : Int))) + (1 : Int))) (i + 1) k))
theorem wsr {u0} {u2} (h0 : u0.length < 9223372036854775807) {K : (q14T ⊕ q14T) → Option Res} : ∀ (l : List vam) (i : Nat) (s1 : Int) (n : Nat), u0.drop i = l → l.length < n → vai vkj n (u0, s1, u2, (i : Int)) K = vln u0 u2 l s1 i (Sum.elim (fun z => K (.inl (u0, z.1, z.2.1, z.2.2))) (fun z => K (.inr (u0, z.1, u2, z.2)))) := by
  intro l
  induction l with
  | nil =>
    intro i s1 n hd hn
    have hge := vcd hd
    cases n with
    | zero => exact absurd hn (Nat.not_lt_zero _)
    | succ n => simp only [vai, vkj, vln, hge, decide_false, cond_false, Sum.elim_inr, Sum.elim_inl]
  | cons y l ih =>
    intro i s1 n hd hn
    obtain ⟨hlt, hz, hd2, hw, hnn⟩ := vbt hd h0
    have hy := va8 hd
    cases n with
    | zero => exact absurd hn (Nat.not_lt_zero _)
    | succ n =>
      have ih2 := fun (s1 : Int) => ih (i + 1) s1 n hd2 (Nat.lt_of_succ_lt_succ hn)
      simp only [vai, vkj, vln, hlt, hz, decide_true, cond_true, and_self, if_true, hy, hw, hnn, Sum.elim_inl, Sum.elim_inr, ih2]
theorem wp9 {u0} {u2} (h0 : u0.length < 9223372036854775807) {K : (q14T ⊕ q14T) → Option Res} {s1 : Int} : vai vkj Fuel (u0, s1, u2, (0 : Int)) K = vln u0 u2 u0 s1 0 (Sum.elim (fun z => K (.inl (u0, z.1, z.2.1, z.2.2))) (fun z => K (.inr (u0, z.1, u2, z.2)))) :=
  wsr h0 u0 0 s1 Fuel rfl (vby h0)
def whv (a0 : (List vam)) (a1 : Int) (k : Int → Option Res) : Option Res :=
  vln a0 (0 : Int) a0 a1 0 (Sum.elim (fun z24 =>
    k z24.2.1) (fun z25 =>
    k z25.1))
theorem w1x {a0 : (List vam)} {a1 : Int} (h0 : a0.length < 9223372036854775807) {k : Int → Option Res} : vvk a0 a1 k = whv a0 a1 k := by
  rw [wng]
  simp only [wff, whv, (wp9 h0), Sum.elim_inl, Sum.elim_inr]
def vk2 (u0 : (List dTxn)) (u2 : Int) : List dTxn → Int → Nat → (((Int × Int × Int) ⊕ (Int × Int)) → Option Res) → Option Res
  | [], s1, i, k =>
    k (.inr (s1, (i : Int)))
  | y :: l, s1, i, k =>
    bif (y.1 != s1) then
      k (.inl (s1, (-1 : Int), (i : Int)))
    else
      bif (y.2.1 != (IntKind.wrap .i64 (s1 + (1 : Int)))) then
        k (.inl ((IntKind.wrap .i64 (s1 + (1 : Int))), (-1 : Int), (i : Int)))
      else
        bif (y.2.2.1 != (IntKind.wrap .i64 ((IntKind.wrap .i64 (s1 + (1 : Int))) + (1 : Int)))) then
          k (.inl ((IntKind.wrap .i64 ((IntKind.wrap .i64 (s1 + (1 : Int))) + (1 : Int))), (-1 : Int), (i : Int)))
        else
          bif (y.2.2.2.1 != (IntKind.wrap .i64 ((IntKind.wrap .i64 ((IntKind.wrap .i64 (s1 + (1 : Int))) + (1 : Int))) + (1 : Int)))) then
            k (.inl ((IntKind.wrap .i64 ((IntKind.wrap .i64 ((IntKind.wrap .i64 (s1 + (1 : Int))) + (1 : Int))) + (1 : Int))), (-1 : Int), (i : Int)))
          else
            vvl y.2.2.2.2.1 (IntKind.wrap .i64 ((IntKind.wrap .i64 ((IntKind.wrap .i64 ((IntKind.wrap .i64 (s1 + (1 : Int))) + (1 : Int))) + (1 : Int))) + (1 : Int))) (fun y1 =>
              bif (decide (y1 < (0 : Int))) then
                k (.inl (y1, (-1 : Int), (i : Int)))
              else
                vvk y.2.2.2.2.2.1 y1 (fun y2 =>
                  bif (decide (y2 < (0 : Int))) then
                    k (.inl (y2, (-1 : Int), (i : Int)))
                  else
                    bif (!(y.2.2.2.2.2.2.1 == ((y2.tmod (3 : Int)) == (0 : Int)))) then
                      k (.inl (y2, (-1 : Int), (i : Int)))
                    else
                      vcp (IntKind.wrap .i64 (y2 + (1 : Int))) (fun y3 =>
                        bif (!(va9 (y.2.2.2.2.2.2.2) y3)) then
                          k (.inl ((IntKind.wrap .i64 (y2 + (1 : Int))), (-1 : Int), (i : Int)))
                        else
                          vk2 u0 u2 l (IntKind.wrap .i64 ((IntKind.wrap .i64 (y2 + (1 : Int))) + (1 : Int))) (i + 1) k)))
theorem wph {u0} {u2} (h0 : u0.length < 9223372036854775807) {K : (q7T ⊕ q7T) → Option Res} : ∀ (l : List dTxn) (i : Nat) (s1 : Int) (n : Nat), u0.drop i = l → l.length < n → vai vkz n (u0, s1, u2, (i : Int)) K = vk2 u0 u2 l s1 i (Sum.elim (fun z => K (.inl (u0, z.1, z.2.1, z.2.2))) (fun z => K (.inr (u0, z.1, u2, z.2)))) := by
  intro l
  induction l with
  | nil =>
    intro i s1 n hd hn
    have hge := vcd hd
    cases n with
    | zero => exact absurd hn (Nat.not_lt_zero _)
    | succ n => simp only [vai, vkz, vk2, hge, decide_false, cond_false, Sum.elim_inr, Sum.elim_inl]
  | cons y l ih =>
    intro i s1 n hd hn
    obtain ⟨hlt, hz, hd2, hw, hnn⟩ := vbt hd h0
    have hy := va8 hd
    cases n with
    | zero => exact absurd hn (Nat.not_lt_zero _)
    | succ n =>
      have ih2 := fun (s1 : Int) => ih (i + 1) s1 n hd2 (Nat.lt_of_succ_lt_succ hn)
      simp only [vai, vkz, vk2, hlt, hz, decide_true, cond_true, and_self, if_true, hy, hw, hnn, Sum.elim_inl, Sum.elim_inr, ih2]
theorem wod {u0} {u2} (h0 : u0.length < 9223372036854775807) {K : (q7T ⊕ q7T) → Option Res} {s1 : Int} : vai vkz Fuel (u0, s1, u2, (0 : Int)) K = vk2 u0 u2 u0 s1 0 (Sum.elim (fun z => K (.inl (u0, z.1, z.2.1, z.2.2))) (fun z => K (.inr (u0, z.1, u2, z.2)))) :=
  wph h0 u0 0 s1 Fuel rfl (vby h0)
def wkv (a0 : (List dTxn)) (a1 : Int) (k : Int → Option Res) : Option Res :=
  vk2 a0 (0 : Int) a0 a1 0 (Sum.elim (fun z24 =>
    k z24.2.1) (fun z25 =>
    k z25.1))
theorem w05 {a0 : (List dTxn)} {a1 : Int} (h0 : a0.length < 9223372036854775807) {k : Int → Option Res} : vuz a0 a1 k = wkv a0 a1 k := by
  rw [wls]
  simp only [wdd, wkv, (wod h0), Sum.elim_inl, Sum.elim_inr]
def wh7 (a0 : ByteArray) (a1 : Int) (k : Bool → Option Res) : Option Res :=
  bif (decide ((a0.size : Int) > (1048576 : Int))) then
    k true
  else
    vx9 a0 a1 (Sum.elim (fun y24 =>
      vnq a0 a1 (fun y25 =>
        vl5 (y25.2.2.2.2.1, (y25.2.2.2.2.2.1, (y25.2.2.2.2.2.2, (y25.1, y25.2.1)))) (y24.2.2.2.2.1, (y24.2.2.2.2.2.1, (y24.2.2.2.2.2.2, (y24.1, y24.2.1)))) (fun y26 =>
          bif (!y26) then
            k false
          else
            bif (y25.2.2.1 != y24.2.2.1) then
              k false
            else
              bif (!(y25.2.2.2.1 == y24.2.2.2.1)) then
                k false
              else
                vbx (.inl (a0, a1, false, y24.2.2.1, y24.2.2.2.1, y24.1, y24.2.1, y25.1, y25.2.1, y24.2.2.2.2.1, y24.2.2.2.2.2.1, y24.2.2.2.2.2.2, y25.2.2.2.2.1, y25.2.2.2.2.2.1, y25.2.2.2.2.2.2)) (Sum.elim (fun z27 =>
                  k z27.2.2.1) (Sum.elim (fun z28 =>
                  k z28.2.2.1) (fun z29 =>
                  k z29.1)))))) (fun y30 =>
      vnq a0 a1 (fun y31 =>
        vl5 (y31.2.2.2.2.1, (y31.2.2.2.2.2.1, (y31.2.2.2.2.2.2, (y31.1, y31.2.1)))) (y30.2.2.2.2.1, (y30.2.2.2.2.2.1, (y30.2.2.2.2.2.2, (y30.1, y30.2.1)))) (fun y32 =>
          bif (!y32) then
            k false
          else
            bif (y31.2.2.1 != y30.2.2.1) then
              k false
            else
              bif (!(y31.2.2.2.1 == y30.2.2.2.1)) then
                k false
              else
                vbx (.inr (a0, a1, false, y30.2.2.1, y30.2.2.2.1, y30.1, y30.2.1, y31.1, y31.2.1, y30.2.2.2.2.1, y30.2.2.2.2.2.1, y30.2.2.2.2.2.2, y31.2.2.2.2.1, y31.2.2.2.2.2.1, y31.2.2.2.2.2.2)) (Sum.elim (fun z33 =>
                  k z33.2.2.1) (Sum.elim (fun z34 =>
                  k z34.2.2.1) (fun z35 =>
                  k z35.1)))))))
theorem wxq {a0 : ByteArray} {a1 : Int}  {k : Bool → Option Res} : v0t a0 a1 k = wh7 a0 a1 k := by
  rw [wm1]
  simp only [we7, wh7, Sum.elim_inl, Sum.elim_inr]
end
end Go.VE
