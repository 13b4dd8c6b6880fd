/- Loops told as recursions over what is left; written by gen.py. -/
import Derived.Test.YteolgjmeigifbaaGreatReadRecordN
import Derived.Test.YteolgjmeigifbaaGreatP1
namespace Go.VE
noncomputable section
set_option linter.unusedVariables false
set_option linter.unusedSimpArgs false
set_option maxRecDepth 100000
def vpm (u0:ByteArray)(u1:Bool):List Int→Nat→(((Bool×Int)⊕Int)→Option Res)→Option Res
 |[],i,k=>
  k (.inr (i:Int))
 |y::l,i,k=>
  bif (decide (y<(97:Int)))then
   k (.inl (false,(i:Int)))
  else
   bif (decide (y>(122:Int)))then
    k (.inl (false,(i:Int)))
   else
    vpm u0 u1 l (i+1) k
theorem wuy {u0} {u1}(h0:u0.size<9223372036854775807){K:((ByteArray×Bool×Int)⊕(ByteArray×Bool×Int))→Option Res}:∀(l:List Int)(i:Nat)  (n:Nat),(vah u0).drop i=l→l.length<n→vae vnu n (u0,u1,(i:Int)) K=vpm u0 u1 l  i (Sum.elim (fun z=>K (.inl (u0,z.1,z.2))) (fun z=>K (.inr (u0,u1,z)))):=by
 intro l
 induction l with
 |nil=>
  intro i  n hd hn
  have hge:=v5w hd
  cases n with
  |zero=>exact absurd hn (Nat.not_lt_zero _)
  |succ n=>simp only [vae,vnu,vpm,hge,decide_false,cond_false,Sum.elim_inr,Sum.elim_inl]
 |cons y l ih=>
  intro i  n hd hn
  obtain⟨hlt,hz,hd2,hw,hnn⟩:=wga hd h0
  have hy:=wdz hd
  cases n with
  |zero=>exact absurd hn (Nat.not_lt_zero _)
  |succ n=>
   have ih2:=ih (i+1)  n hd2 (Nat.lt_of_succ_lt_succ hn)
   simp only [vae,vnu,vpm,hlt,hz,decide_true,cond_true,and_self,if_true,hy,hw,hnn,Sum.elim_inl,Sum.elim_inr,ih2]
theorem wu7 {u0} {u1}(h0:u0.size<9223372036854775807){K:((ByteArray×Bool×Int)⊕(ByteArray×Bool×Int))→Option Res}  : vae vnu Fuel (u0,u1,(0:Int)) K=vpm u0 u1 (vah u0)  0 (Sum.elim (fun z=>K (.inl (u0,z.1,z.2))) (fun z=>K (.inr (u0,u1,z)))):=
 wuy h0 (vah u0) 0  Fuel rfl (whc h0)
def wns (a0:ByteArray)(k:Bool→Option Res):Option Res:=
 vpm a0 false (vah a0)  0 (Sum.elim (fun z24=>
  k z24.1) (fun _=>
  vci (a0.size:Int) (1:Int) (3:Int) (fun y26=>
   k y26)))
theorem w1q {a0:ByteArray}(h0:a0.size<9223372036854775807){k:Bool→Option Res}:vjb a0 k=wns a0 k:=by
 rw [woy]
 simp only [wij,wns,(wu7 h0),Sum.elim_inl,Sum.elim_inr]
def vhn (u0:(List vag))(u1:Bool):List vag→Nat→(((Bool×Int)⊕Int)→Option Res)→Option Res
 |[],i,k=>
  k (.inr (i:Int))
 |y::l,i,k=>
  vup y (fun y1=>
   bif (!y1)then
    k (.inl (false,(i:Int)))
   else
    bif (decide ((i:Int)>(0:Int)))then
     if 0≤(IntKind.wrap .i64 ((i:Int)-(1:Int)))∧(IntKind.wrap .i64 ((i:Int)-(1:Int)))<(u0.length:Int)then
      bif (!(va3 ((rd (Ty.zero tWrite) u0 (IntKind.wrap .i64 ((i:Int)-(1:Int)))).1) (y.1)))then
       k (.inl (false,(i:Int)))
      else
       vhn u0 u1 l (i+1) k
     else none
    else
     vhn u0 u1 l (i+1) k)
theorem wqm {u0} {u1}(h0:u0.length<9223372036854775807){K:(((List vag)×Bool×Int)⊕((List vag)×Bool×Int))→Option Res}:∀(l:List vag)(i:Nat)  (n:Nat),u0.drop i=l→l.length<n→vae vjd n (u0,u1,(i:Int)) K=vhn u0 u1 l  i (Sum.elim (fun z=>K (.inl (u0,z.1,z.2))) (fun z=>K (.inr (u0,u1,z)))):=by
 intro l
 induction l with
 |nil=>
  intro i  n hd hn
  have hge:=vbh hd
  cases n with
  |zero=>exact absurd hn (Nat.not_lt_zero _)
  |succ n=>simp only [vae,vjd,vhn,hge,decide_false,cond_false,Sum.elim_inr,Sum.elim_inl]
 |cons y l ih=>
  intro i  n hd hn
  obtain⟨hlt,hz,hd2,hw,hnn⟩:=va7 hd h0
  have hy:=va1 hd
  cases n with
  |zero=>exact absurd hn (Nat.not_lt_zero _)
  |succ n=>
   have ih2:=ih (i+1)  n hd2 (Nat.lt_of_succ_lt_succ hn)
   simp only [vae,vjd,vhn,hlt,hz,decide_true,cond_true,and_self,if_true,hy,hw,hnn,Sum.elim_inl,Sum.elim_inr,ih2]
theorem wlr {u0} {u1}(h0:u0.length<9223372036854775807){K:(((List vag)×Bool×Int)⊕((List vag)×Bool×Int))→Option Res}  : vae vjd Fuel (u0,u1,(0:Int)) K=vhn u0 u1 u0  0 (Sum.elim (fun z=>K (.inl (u0,z.1,z.2))) (fun z=>K (.inr (u0,u1,z)))):=
 wqm h0 u0 0  Fuel rfl (va9 h0)
def wdc (a0:(List vag))(k:Bool→Option Res):Option Res:=
 vhn a0 false a0  0 (Sum.elim (fun z24=>
  k z24.1) (fun _=>
  k (decide ((a0.length:Int)≤(8:Int)))))
theorem wyu {a0:(List vag)}(h0:a0.length<9223372036854775807){k:Bool→Option Res}:vr9 a0 k=wdc a0 k:=by
 rw [wem]
 simp only [v8d,wdc,(wlr h0),Sum.elim_inl,Sum.elim_inr]
def vcp (u0:Bool)(u1:Int)(u2:Int)(u3:Int)(u4:Int)(u5:(List vai))(u6:(List vag))(u7:Bool)(u8:ByteArray)(k:Bool→Option Res):Option Res:=
  bif (u2 != (1:Int))then
   k true
  else
   k (!u7)
theorem vwy {u0} {u1} {u2} {u3} {u4} {u5} {u6} {u7} {u8}  {K:q31T→Option Res}:vcb (u0,u1,u2,u3,u4,u5,u6,u7,u8) K=vcp u0 u1 u2 u3 u4 u5 u6 u7 u8 (fun z=>K (z,u1,u2,u3,u4,u5,u6,u7,u8)):=by
 simp only [vcb,vcp,Sum.elim_inl,Sum.elim_inr]
def vcv (u0:Bool)(u1:Int)(u2:Int)(u3:Int)(u4:Int)(u5:(List vai))(u6:(List vag))(u7:Bool)(u8:ByteArray)(k:Bool→Option Res):Option Res:=
  bif (u2==(2:Int))then
   vjb u8 (fun y1=>
    bif (!y1)then
     k false
    else
     bif (u2 != (2:Int))then
      bif (!(vap u8 (⟨#[]⟩:ByteArray)))then
       k false
      else
       vcp u0 u1 u2 u3 u4 u5 u6 u7 u8 (fun z2=>
        k z2)
     else
      vcp u0 u1 u2 u3 u4 u5 u6 u7 u8 (fun z3=>
       k z3))
  else
   bif (u2 != (2:Int))then
    bif (!(vap u8 (⟨#[]⟩:ByteArray)))then
     k false
    else
     vcp u0 u1 u2 u3 u4 u5 u6 u7 u8 (fun z4=>
      k z4)
   else
    vcp u0 u1 u2 u3 u4 u5 u6 u7 u8 (fun z5=>
     k z5)
theorem vyx {u0} {u1} {u2} {u3} {u4} {u5} {u6} {u7} {u8}  {K:q31T→Option Res}:vcc (u0,u1,u2,u3,u4,u5,u6,u7,u8) K=vcv u0 u1 u2 u3 u4 u5 u6 u7 u8 (fun z=>K (z,u1,u2,u3,u4,u5,u6,u7,u8)):=by
 simp only [vcc,vcv,vwy,Sum.elim_inl,Sum.elim_inr]
def vjr (u0:Bool)(u2:Int)(u3:Int)(u4:Int)(u5:Int)(u6:(List vai))(u7:(List vag))(u8:Bool)(u9:ByteArray):List vai→Nat→(((Bool×Int)⊕Int)→Option Res)→Option Res
 |[],i,k=>
  k (.inr (i:Int))
 |y::l,i,k=>
  v20 y (fun y1=>
   bif (!y1)then
    k (.inl (false,(i:Int)))
   else
    vjr u0 u2 u3 u4 u5 u6 u7 u8 u9 l (i+1) k)
theorem wo7 {u0} {u2} {u3} {u4} {u5} {u6} {u7} {u8} {u9}(h0:u6.length<9223372036854775807){K:(q33T⊕q33T)→Option Res}:∀(l:List vai)(i:Nat)  (n:Nat),u6.drop i=l→l.length<n→vae vjk n (u0,(i:Int),u2,u3,u4,u5,u6,u7,u8,u9) K=vjr u0 u2 u3 u4 u5 u6 u7 u8 u9 l  i (Sum.elim (fun z=>K (.inl (z.1,z.2,u2,u3,u4,u5,u6,u7,u8,u9))) (fun z=>K (.inr (u0,z,u2,u3,u4,u5,u6,u7,u8,u9)))):=by
 intro l
 induction l with
 |nil=>
  intro i  n hd hn
  have hge:=vbh hd
  cases n with
  |zero=>exact absurd hn (Nat.not_lt_zero _)
  |succ n=>simp only [vae,vjk,vjr,hge,decide_false,cond_false,Sum.elim_inr,Sum.elim_inl]
 |cons y l ih=>
  intro i  n hd hn
  obtain⟨hlt,hz,hd2,hw,hnn⟩:=va7 hd h0
  have hy:=va1 hd
  cases n with
  |zero=>exact absurd hn (Nat.not_lt_zero _)
  |succ n=>
   have ih2:=ih (i+1)  n hd2 (Nat.lt_of_succ_lt_succ hn)
   simp only [vae,vjk,vjr,hlt,hz,decide_true,cond_true,and_self,if_true,hy,hw,hnn,Sum.elim_inl,Sum.elim_inr,ih2]
theorem wqz {u0} {u2} {u3} {u4} {u5} {u6} {u7} {u8} {u9}(h0:u6.length<9223372036854775807){K:(q33T⊕q33T)→Option Res}  : vae vjk Fuel (u0,(0:Int),u2,u3,u4,u5,u6,u7,u8,u9) K=vjr u0 u2 u3 u4 u5 u6 u7 u8 u9 u6  0 (Sum.elim (fun z=>K (.inl (z.1,z.2,u2,u3,u4,u5,u6,u7,u8,u9))) (fun z=>K (.inr (u0,z,u2,u3,u4,u5,u6,u7,u8,u9)))):=
 wo7 h0 u6 0  Fuel rfl (va9 h0)
def vfb (u0:Bool)(u1:Int)(u2:Int)(u3:Int)(u4:Int)(u5:(List vai))(u6:(List vag))(u7:Bool)(u8:ByteArray)(k:Bool→Option Res):Option Res:=
  vjr u0 u1 u2 u3 u4 u5 u6 u7 u8 u5  0 (Sum.elim (fun z1=>
   k z1.1) (fun _=>
   bif (u2==(3:Int))then
    vci u4 (IntKind.wrap .i64 (u3+(1:Int))) (9999:Int) (fun y3=>
     bif (!y3)then
      k false
     else
      bif (u2 != (3:Int))then
       bif (u4 != (0:Int))then
        k false
       else
        vcv u0 u1 u2 u3 u4 u5 u6 u7 u8 (fun z4=>
         k z4)
      else
       vcv u0 u1 u2 u3 u4 u5 u6 u7 u8 (fun z5=>
        k z5))
   else
    bif (u2 != (3:Int))then
     bif (u4 != (0:Int))then
      k false
     else
      vcv u0 u1 u2 u3 u4 u5 u6 u7 u8 (fun z6=>
       k z6)
    else
     vcv u0 u1 u2 u3 u4 u5 u6 u7 u8 (fun z7=>
      k z7)))
theorem vya {u0} {u1} {u2} {u3} {u4} {u5} {u6} {u7} {u8}(h0:u5.length<9223372036854775807){K:q31T→Option Res}:vdo (u0,u1,u2,u3,u4,u5,u6,u7,u8) K=vfb u0 u1 u2 u3 u4 u5 u6 u7 u8 (fun z=>K (z,u1,u2,u3,u4,u5,u6,u7,u8)):=by
 simp only [vdo,vfb,vyx,(wqz h0),Sum.elim_inl,Sum.elim_inr]
def wfc (a0:dTxn)(k:Bool→Option Res):Option Res:=
 vci a0.1 (1:Int) (9999:Int) (fun y24=>
  bif (!y24)then
   k false
  else
   vci a0.2.1 (1:Int) (3:Int) (fun y25=>
    bif (!y25)then
     k false
    else
     vci a0.2.2.1 (0:Int) (9999:Int) (fun y26=>
      bif (!y26)then
       k false
      else
       bif (decide ((a0.2.2.2.2.1.length:Int)>(8:Int)))then
        k false
       else
        vr9 a0.2.2.2.2.2.1 (fun y27=>
         bif (!y27)then
          k false
         else
          vfb false a0.1 a0.2.1 a0.2.2.1 a0.2.2.2.1 a0.2.2.2.2.1 a0.2.2.2.2.2.1 a0.2.2.2.2.2.2.1 a0.2.2.2.2.2.2.2 (fun z28=>
           k z28)))))
theorem wz1 {a0:dTxn}(h0:a0.2.2.2.2.1.length<9223372036854775807){k:Bool→Option Res}:vf2 a0 k=wfc a0 k:=by
 rw [wcs]
 simp only [v5s,wfc,(vya h0),Sum.elim_inl,Sum.elim_inr]
def vdy (u0:(List vaa))(u1:Bool)(u2:Int)(u3:ByteArray)(u4:ByteArray)(u5:Bool)(u6:Int)(k:(Bool⊕Unit)→Option Res):Option Res:=
  bif (decide (u2>(0:Int)))then
   if 0≤(IntKind.wrap .i64 (u2-(1:Int)))∧(IntKind.wrap .i64 (u2-(1:Int)))<(u0.length:Int)then
    bif (!((va3 ((rd (Ty.zero tVersion) u0 (IntKind.wrap .i64 (u2-(1:Int)))).1) u3)||(vap ((rd (Ty.zero tVersion) u0 (IntKind.wrap .i64 (u2-(1:Int)))).1) u3)))then
     k (.inl false)
    else
     if 0≤(IntKind.wrap .i64 (u2-(1:Int)))∧(IntKind.wrap .i64 (u2-(1:Int)))<(u0.length:Int)then
      bif (vap ((rd (Ty.zero tVersion) u0 (IntKind.wrap .i64 (u2-(1:Int)))).1) u3)then
       if 0≤(IntKind.wrap .i64 (u2-(1:Int)))∧(IntKind.wrap .i64 (u2-(1:Int)))<(u0.length:Int)then
        bif (decide ((rd (Ty.zero tVersion) u0 (IntKind.wrap .i64 (u2-(1:Int)))).2.2.2≥u6))then
         k (.inl false)
        else
         k (.inr ())
       else none
      else
       k (.inr ())
     else none
   else none
  else
   k (.inr ())
theorem vos {u0} {u1} {u2} {u3} {u4} {u5} {u6}  {K:(q14T⊕q14T)→Option Res}:vc3 (u0,u1,u2,u3,u4,u5,u6) K=vdy u0 u1 u2 u3 u4 u5 u6 (Sum.elim (fun z=>K (.inl (u0,z,u2,u3,u4,u5,u6))) (fun _=>K (.inr (u0,u1,u2,u3,u4,u5,u6)))):=by
 simp only [vc3,vdy,Sum.elim_inl,Sum.elim_inr]
def vhp (u0:(List vaa))(u1:Bool):List vaa→Nat→(((Bool×Int)⊕Int)→Option Res)→Option Res
 |[],i,k=>
  k (.inr (i:Int))
 |y::l,i,k=>
  vjb y.1 (fun y1=>
   bif (!y1)then
    k (.inl (false,(i:Int)))
   else
    bif (decide ((y.2.1.size:Int)>(12:Int)))then
     k (.inl (false,(i:Int)))
    else
     bif y.2.2.1 then
      bif (!(vap (y.2.1) (⟨#[]⟩:ByteArray)))then
       k (.inl (false,(i:Int)))
      else
       vci y.2.2.2 (1:Int) (9999:Int) (fun y2=>
        bif (!y2)then
         k (.inl (false,(i:Int)))
        else
         vdy u0 u1 (i:Int) y.1 y.2.1 y.2.2.1 y.2.2.2 (Sum.elim (fun z3=>
          k (.inl (z3,(i:Int)))) (fun _=>
          vhp u0 u1 l (i+1) k)))
     else
      vci y.2.2.2 (1:Int) (9999:Int) (fun y5=>
       bif (!y5)then
        k (.inl (false,(i:Int)))
       else
        vdy u0 u1 (i:Int) y.1 y.2.1 y.2.2.1 y.2.2.2 (Sum.elim (fun z6=>
         k (.inl (z6,(i:Int)))) (fun _=>
         vhp u0 u1 l (i+1) k))))
theorem wq2 {u0} {u1}(h0:u0.length<9223372036854775807){K:(((List vaa)×Bool×Int)⊕((List vaa)×Bool×Int))→Option Res}:∀(l:List vaa)(i:Nat)  (n:Nat),u0.drop i=l→l.length<n→vae vjq n (u0,u1,(i:Int)) K=vhp u0 u1 l  i (Sum.elim (fun z=>K (.inl (u0,z.1,z.2))) (fun z=>K (.inr (u0,u1,z)))):=by
 intro l
 induction l with
 |nil=>
  intro i  n hd hn
  have hge:=vbh hd
  cases n with
  |zero=>exact absurd hn (Nat.not_lt_zero _)
  |succ n=>simp only [vae,vjq,vhp,hge,decide_false,cond_false,Sum.elim_inr,Sum.elim_inl,vos]
 |cons y l ih=>
  intro i  n hd hn
  obtain⟨hlt,hz,hd2,hw,hnn⟩:=va7 hd h0
  have hy:=va1 hd
  cases n with
  |zero=>exact absurd hn (Nat.not_lt_zero _)
  |succ n=>
   have ih2:=ih (i+1)  n hd2 (Nat.lt_of_succ_lt_succ hn)
   simp only [vae,vjq,vhp,hlt,hz,decide_true,cond_true,and_self,if_true,hy,hw,hnn,Sum.elim_inl,Sum.elim_inr,ih2,vos]
theorem wqw {u0} {u1}(h0:u0.length<9223372036854775807){K:(((List vaa)×Bool×Int)⊕((List vaa)×Bool×Int))→Option Res}  : vae vjq Fuel (u0,u1,(0:Int)) K=vhp u0 u1 u0  0 (Sum.elim (fun z=>K (.inl (u0,z.1,z.2))) (fun z=>K (.inr (u0,u1,z)))):=
 wq2 h0 u0 0  Fuel rfl (va9 h0)
def wec (a0:(List vaa))(k:Bool→Option Res):Option Res:=
 vhp a0 false a0  0 (Sum.elim (fun z24=>
  k z24.1) (fun _=>
  k (decide ((a0.length:Int)≤(120:Int)))))
theorem wzj {a0:(List vaa)}(h0:a0.length<9223372036854775807){k:Bool→Option Res}:vr4 a0 k=wec a0 k:=by
 rw [wep]
 simp only [v7l,wec,(wqw h0),Sum.elim_inl,Sum.elim_inr]
def vog (u0:Bool)(u2:(List vaa))(u3:(List dTxn))(u4:(List dTxn))(u5:Int)(u6:Int):List vaa→Nat→(((Bool×Int)⊕Int)→Option Res)→Option Res
 |[],i,k=>
  k (.inr (i:Int))
 |y::l,i,k=>
  bif (decide (y.2.2.2>u5))then
   k (.inl (false,(i:Int)))
  else
   vog u0 u2 u3 u4 u5 u6 l (i+1) k
theorem wvc {u0} {u2} {u3} {u4} {u5} {u6}(h0:u2.length<9223372036854775807){K:(q29T⊕q29T)→Option Res}:∀(l:List vaa)(i:Nat)  (n:Nat),u2.drop i=l→l.length<n→vae voh n (u0,(i:Int),u2,u3,u4,u5,u6) K=vog u0 u2 u3 u4 u5 u6 l  i (Sum.elim (fun z=>K (.inl (z.1,z.2,u2,u3,u4,u5,u6))) (fun z=>K (.inr (u0,z,u2,u3,u4,u5,u6)))):=by
 intro l
 induction l with
 |nil=>
  intro i  n hd hn
  have hge:=vbh hd
  cases n with
  |zero=>exact absurd hn (Nat.not_lt_zero _)
  |succ n=>simp only [vae,voh,vog,hge,decide_false,cond_false,Sum.elim_inr,Sum.elim_inl]
 |cons y l ih=>
  intro i  n hd hn
  obtain⟨hlt,hz,hd2,hw,hnn⟩:=va7 hd h0
  have hy:=va1 hd
  cases n with
  |zero=>exact absurd hn (Nat.not_lt_zero _)
  |succ n=>
   have ih2:=ih (i+1)  n hd2 (Nat.lt_of_succ_lt_succ hn)
   simp only [vae,voh,vog,hlt,hz,decide_true,cond_true,and_self,if_true,hy,hw,hnn,Sum.elim_inl,Sum.elim_inr,ih2]
theorem wt6 {u0} {u2} {u3} {u4} {u5} {u6}(h0:u2.length<9223372036854775807){K:(q29T⊕q29T)→Option Res}  : vae voh Fuel (u0,(0:Int),u2,u3,u4,u5,u6) K=vog u0 u2 u3 u4 u5 u6 u2  0 (Sum.elim (fun z=>K (.inl (z.1,z.2,u2,u3,u4,u5,u6))) (fun z=>K (.inr (u0,z,u2,u3,u4,u5,u6)))):=
 wvc h0 u2 0  Fuel rfl (va9 h0)
def vk6 (u0:Bool)(u2:(List vaa))(u3:(List dTxn))(u4:(List dTxn))(u5:Int)(u6:Int):List dTxn→(List Int)→Nat→(((Bool×Int×(List Int))⊕(Int×(List Int)))→Option Res)→Option Res
 |[],s7,i,k=>
  k (.inr ((i:Int),s7))
 |y::l,s7,i,k=>
  vf2 y (fun y1=>
   bif (!y1)then
    k (.inl (false,(i:Int),s7))
   else
    bif (y.2.1 != (3:Int))then
     k (.inl (false,(i:Int),s7))
    else
     bif (decide (y.2.2.2.1>u5))then
      k (.inl (false,(i:Int),s7))
     else
      bif (decide ((i:Int)>(0:Int)))then
       if 0≤(IntKind.wrap .i64 ((i:Int)-(1:Int)))∧(IntKind.wrap .i64 ((i:Int)-(1:Int)))<(u3.length:Int)then
        bif (decide ((rd (Ty.zero tTxn) u3 (IntKind.wrap .i64 ((i:Int)-(1:Int)))).2.2.2.1≥y.2.2.2.1))then
         k (.inl (false,(i:Int),s7))
        else
         if s7.length+[y.1].length≤VE.maxLen then
          vk6 u0 u2 u3 u4 u5 u6 l (s7++[y.1]) (i+1) k
         else none
       else none
      else
       if s7.length+[y.1].length≤VE.maxLen then
        vk6 u0 u2 u3 u4 u5 u6 l (s7++[y.1]) (i+1) k
       else none)
theorem wty {u0} {u2} {u3} {u4} {u5} {u6}(h0:u3.length<9223372036854775807){K:(q28T⊕q28T)→Option Res}:∀(l:List dTxn)(i:Nat)(s7:(List Int))(n:Nat),u3.drop i=l→l.length<n→vae vom n (u0,(i:Int),u2,u3,u4,u5,u6,s7) K=vk6 u0 u2 u3 u4 u5 u6 l s7 i (Sum.elim (fun z=>K (.inl (z.1,z.2.1,u2,u3,u4,u5,u6,z.2.2))) (fun z=>K (.inr (u0,z.1,u2,u3,u4,u5,u6,z.2)))):=by
 intro l
 induction l with
 |nil=>
  intro i s7 n hd hn
  have hge:=vbh hd
  cases n with
  |zero=>exact absurd hn (Nat.not_lt_zero _)
  |succ n=>simp only [vae,vom,vk6,hge,decide_false,cond_false,Sum.elim_inr,Sum.elim_inl]
 |cons y l ih=>
  intro i s7 n hd hn
  obtain⟨hlt,hz,hd2,hw,hnn⟩:=va7 hd h0
  have hy:=va1 hd
  cases n with
  |zero=>exact absurd hn (Nat.not_lt_zero _)
  |succ n=>
   have ih2:=fun(s7:(List Int))=>ih (i+1) s7 n hd2 (Nat.lt_of_succ_lt_succ hn)
   simp only [vae,vom,vk6,hlt,hz,decide_true,cond_true,and_self,if_true,hy,hw,hnn,Sum.elim_inl,Sum.elim_inr,ih2]
theorem wvs {u0} {u2} {u3} {u4} {u5} {u6}(h0:u3.length<9223372036854775807){K:(q28T⊕q28T)→Option Res}{s7:(List Int)}:vae vom Fuel (u0,(0:Int),u2,u3,u4,u5,u6,s7) K=vk6 u0 u2 u3 u4 u5 u6 u3 s7 0 (Sum.elim (fun z=>K (.inl (z.1,z.2.1,u2,u3,u4,u5,u6,z.2.2))) (fun z=>K (.inr (u0,z.1,u2,u3,u4,u5,u6,z.2)))):=
 wty h0 u3 0 s7 Fuel rfl (va9 h0)
def vlu (u0:Bool)(u2:(List vaa))(u3:(List dTxn))(u4:(List dTxn))(u5:Int)(u6:Int):List dTxn→(List Int)→Nat→(((Bool×Int×(List Int))⊕(Int×(List Int)))→Option Res)→Option Res
 |[],s7,i,k=>
  k (.inr ((i:Int),s7))
 |y::l,s7,i,k=>
  vf2 y (fun y1=>
   bif (!y1)then
    k (.inl (false,(i:Int),s7))
   else
    bif (y.2.1 != (2:Int))then
     k (.inl (false,(i:Int),s7))
    else
     bif (decide (y.2.2.1>u5))then
      k (.inl (false,(i:Int),s7))
     else
      bif (decide ((i:Int)>(0:Int)))then
       if 0≤(IntKind.wrap .i64 ((i:Int)-(1:Int)))∧(IntKind.wrap .i64 ((i:Int)-(1:Int)))<(u4.length:Int)then
        bif (!(va3 ((rd (Ty.zero tTxn) u4 (IntKind.wrap .i64 ((i:Int)-(1:Int)))).2.2.2.2.2.2.2) (y.2.2.2.2.2.2.2)))then
         k (.inl (false,(i:Int),s7))
        else
         if s7.length+[y.1].length≤VE.maxLen then
          vlu u0 u2 u3 u4 u5 u6 l (s7++[y.1]) (i+1) k
         else none
       else none
      else
       if s7.length+[y.1].length≤VE.maxLen then
        vlu u0 u2 u3 u4 u5 u6 l (s7++[y.1]) (i+1) k
       else none)
theorem wr3 {u0} {u2} {u3} {u4} {u5} {u6}(h0:u4.length<9223372036854775807){K:(q28T⊕q28T)→Option Res}:∀(l:List dTxn)(i:Nat)(s7:(List Int))(n:Nat),u4.drop i=l→l.length<n→vae vpr n (u0,(i:Int),u2,u3,u4,u5,u6,s7) K=vlu u0 u2 u3 u4 u5 u6 l s7 i (Sum.elim (fun z=>K (.inl (z.1,z.2.1,u2,u3,u4,u5,u6,z.2.2))) (fun z=>K (.inr (u0,z.1,u2,u3,u4,u5,u6,z.2)))):=by
 intro l
 induction l with
 |nil=>
  intro i s7 n hd hn
  have hge:=vbh hd
  cases n with
  |zero=>exact absurd hn (Nat.not_lt_zero _)
  |succ n=>simp only [vae,vpr,vlu,hge,decide_false,cond_false,Sum.elim_inr,Sum.elim_inl]
 |cons y l ih=>
  intro i s7 n hd hn
  obtain⟨hlt,hz,hd2,hw,hnn⟩:=va7 hd h0
  have hy:=va1 hd
  cases n with
  |zero=>exact absurd hn (Nat.not_lt_zero _)
  |succ n=>
   have ih2:=fun(s7:(List Int))=>ih (i+1) s7 n hd2 (Nat.lt_of_succ_lt_succ hn)
   simp only [vae,vpr,vlu,hlt,hz,decide_true,cond_true,and_self,if_true,hy,hw,hnn,Sum.elim_inl,Sum.elim_inr,ih2]
theorem wt7 {u0} {u2} {u3} {u4} {u5} {u6}(h0:u4.length<9223372036854775807){K:(q28T⊕q28T)→Option Res}{s7:(List Int)}:vae vpr Fuel (u0,(0:Int),u2,u3,u4,u5,u6,s7) K=vlu u0 u2 u3 u4 u5 u6 u4 s7 0 (Sum.elim (fun z=>K (.inl (z.1,z.2.1,u2,u3,u4,u5,u6,z.2.2))) (fun z=>K (.inr (u0,z.1,u2,u3,u4,u5,u6,z.2)))):=
 wr3 h0 u4 0 s7 Fuel rfl (va9 h0)
def vgo (u0:Bool)(u1:(List vaa))(u2:(List dTxn))(u3:(List dTxn))(u4:Int)(u5:Int)(k:q23T→Option Res):Option Res:=
  vog u0 u1 u2 u3 u4 u5 u1  0 (Sum.elim (fun z1=>
   k (z1.1,u1,u2,u3,u4,u5)) (fun _=>
   vk6 u0 u1 u2 u3 u4 u5 u2 ([]:List Int) 0 (Sum.elim (fun z3=>
    k (z3.1,u1,u2,u3,u4,u5)) (fun z4=>
    vlu u0 u1 u2 u3 u4 u5 u3 z4.2 0 (Sum.elim (fun z5=>
     k (z5.1,u1,u2,u3,u4,u5)) (fun z6=>
     vae vn3 Fuel (u0,(0:Int),u1,u2,u3,u4,u5,z6.2) (Sum.elim (fun z7=>
      k (true,z7.2.2.1,z7.2.2.2.1,z7.2.2.2.2.1,z7.2.2.2.2.2.1,z7.2.2.2.2.2.2.1)) (fun z8=>
      k (z8.1,z8.2.2.1,z8.2.2.2.1,z8.2.2.2.2.1,z8.2.2.2.2.2.1,z8.2.2.2.2.2.2.1)))))))))
theorem v08 {u0} {u1} {u2} {u3} {u4} {u5}(h0:u3.length<9223372036854775807)(h1:u2.length<9223372036854775807)(h2:u1.length<9223372036854775807){K:q23T→Option Res}:vee (u0,u1,u2,u3,u4,u5) K=vgo u0 u1 u2 u3 u4 u5 (fun z=>K (z.1,z.2.1,z.2.2.1,z.2.2.2.1,z.2.2.2.2.1,z.2.2.2.2.2)):=by
 simp only [vee,vgo,(wt7 h0),(wvs h1),(wt6 h2),Sum.elim_inl,Sum.elim_inr]
def wnw (a0:vfd)(k:Bool→Option Res):Option Res:=
 vr4 a0.1 (fun y24=>
  bif (!y24)then
   k false
  else
   bif (decide ((a0.2.1.length:Int)>(12:Int)))then
    k false
   else
    bif (decide ((a0.2.2.1.length:Int)>(3:Int)))then
     k false
    else
     vci a0.2.2.2.1 (0:Int) (9999:Int) (fun y25=>
      bif (!y25)then
       k false
      else
       vci a0.2.2.2.2 (1:Int) (9999:Int) (fun y26=>
        bif (!y26)then
         k false
        else
         vgo false a0.1 a0.2.1 a0.2.2.1 a0.2.2.2.1 a0.2.2.2.2 (fun z27=>
          k z27.1))))
theorem w1y {a0:vfd}(h0:a0.2.2.1.length<9223372036854775807)(h1:a0.2.1.length<9223372036854775807)(h2:a0.1.length<9223372036854775807){k:Bool→Option Res}:vrl a0 k=wnw a0 k:=by
 rw [wn0]
 simp only [wg6,wnw,(v08 h0 h1 h2),Sum.elim_inl,Sum.elim_inr]
def vc5 (u0:Bool)(u1:Int)(u2:Int)(u3:Int)(u4:Int)(u5:Int)(u6:(List vai))(u7:(List vag))(u8:Bool)(u9:ByteArray)(u10:ByteArray)(u11:Bool)(u12:(List vaa))(u13:(List dTxn))(u14:(List dTxn))(u15:Int)(u16:Int)(k:Bool→Option Res):Option Res:=
  bif (u1==(4:Int))then
   vrl (u12,(u13,(u14,(u15,u16)))) (fun y1=>
    k y1)
  else
   vug (u12,(u13,(u14,(u15,u16)))) (fun y2=>
    k y2)
theorem v1j {u0} {u1} {u2} {u3} {u4} {u5} {u6} {u7} {u8} {u9} {u10} {u11} {u12} {u13} {u14} {u15} {u16}  {K:q32T→Option Res}:vck (u0,u1,u2,u3,u4,u5,u6,u7,u8,u9,u10,u11,u12,u13,u14,u15,u16) K=vc5 u0 u1 u2 u3 u4 u5 u6 u7 u8 u9 u10 u11 u12 u13 u14 u15 u16 (fun z=>K (z,u1,u2,u3,u4,u5,u6,u7,u8,u9,u10,u11,u12,u13,u14,u15,u16)):=by
 simp only [vck,vc5,Sum.elim_inl,Sum.elim_inr]
def vax (u0:Bool)(u1:Int)(u2:Int)(u3:Int)(u4:Int)(u5:Int)(u6:(List vai))(u7:(List vag))(u8:Bool)(u9:ByteArray)(u10:ByteArray)(u11:Bool)(u12:(List vaa))(u13:(List dTxn))(u14:(List dTxn))(u15:Int)(u16:Int)(k:Bool→Option Res):Option Res:=
  bif (u1==(3:Int))then
   vjb u10 (fun y1=>
    bif (!y1)then
     k false
    else
     bif (u1 != (3:Int))then
      bif (!(vap u10 (⟨#[]⟩:ByteArray)))then
       k false
      else
       bif u11 then
        k false
       else
        vc5 u0 u1 u2 u3 u4 u5 u6 u7 u8 u9 u10 u11 u12 u13 u14 u15 u16 (fun z2=>
         k z2)
     else
      vc5 u0 u1 u2 u3 u4 u5 u6 u7 u8 u9 u10 u11 u12 u13 u14 u15 u16 (fun z3=>
       k z3))
  else
   bif (u1 != (3:Int))then
    bif (!(vap u10 (⟨#[]⟩:ByteArray)))then
     k false
    else
     bif u11 then
      k false
     else
      vc5 u0 u1 u2 u3 u4 u5 u6 u7 u8 u9 u10 u11 u12 u13 u14 u15 u16 (fun z4=>
       k z4)
   else
    vc5 u0 u1 u2 u3 u4 u5 u6 u7 u8 u9 u10 u11 u12 u13 u14 u15 u16 (fun z5=>
     k z5)
theorem v17 {u0} {u1} {u2} {u3} {u4} {u5} {u6} {u7} {u8} {u9} {u10} {u11} {u12} {u13} {u14} {u15} {u16}  {K:q32T→Option Res}:vaw (u0,u1,u2,u3,u4,u5,u6,u7,u8,u9,u10,u11,u12,u13,u14,u15,u16) K=vax u0 u1 u2 u3 u4 u5 u6 u7 u8 u9 u10 u11 u12 u13 u14 u15 u16 (fun z=>K (z,u1,u2,u3,u4,u5,u6,u7,u8,u9,u10,u11,u12,u13,u14,u15,u16)):=by
 simp only [vaw,vax,v1j,Sum.elim_inl,Sum.elim_inr]
def vem (u0:Bool)(u1:Bool)(u2:Int)(u3:Int)(u4:Int)(u5:Int)(u6:Int)(u7:(List vai))(u8:(List vag))(u9:Bool)(u10:ByteArray)(u11:ByteArray)(u12:Bool)(u13:(List vaa))(u14:(List dTxn))(u15:(List dTxn))(u16:Int)(u17:Int)(k:(Bool⊕Bool)→Option Res):Option Res:=
  bif u1 then
   vf2 (u3,(u4,(u5,(u6,(u7,(u8,(u9,u10))))))) (fun y1=>
    bif (!y1)then
     k (.inl false)
    else
     bif (!u1)then
      vns (u3,(u4,(u5,(u6,(u7,(u8,(u9,u10))))))) (fun y2=>
       bif (!y2)then
        k (.inl false)
       else
        bif (u2==(1:Int))then
         bif (u4 != (3:Int))then
          k (.inl false)
         else
          bif (u2==(2:Int))then
           bif (u4 != (2:Int))then
            k (.inl false)
           else
            vax u0 u2 u3 u4 u5 u6 u7 u8 u9 u10 u11 u12 u13 u14 u15 u16 u17 (fun z3=>
             k (.inr z3))
          else
           vax u0 u2 u3 u4 u5 u6 u7 u8 u9 u10 u11 u12 u13 u14 u15 u16 u17 (fun z4=>
            k (.inr z4))
        else
         bif (u2==(2:Int))then
          bif (u4 != (2:Int))then
           k (.inl false)
          else
           vax u0 u2 u3 u4 u5 u6 u7 u8 u9 u10 u11 u12 u13 u14 u15 u16 u17 (fun z5=>
            k (.inr z5))
         else
          vax u0 u2 u3 u4 u5 u6 u7 u8 u9 u10 u11 u12 u13 u14 u15 u16 u17 (fun z6=>
           k (.inr z6)))
     else
      bif (u2==(1:Int))then
       bif (u4 != (3:Int))then
        k (.inl false)
       else
        bif (u2==(2:Int))then
         bif (u4 != (2:Int))then
          k (.inl false)
         else
          vax u0 u2 u3 u4 u5 u6 u7 u8 u9 u10 u11 u12 u13 u14 u15 u16 u17 (fun z7=>
           k (.inr z7))
        else
         vax u0 u2 u3 u4 u5 u6 u7 u8 u9 u10 u11 u12 u13 u14 u15 u16 u17 (fun z8=>
          k (.inr z8))
      else
       bif (u2==(2:Int))then
        bif (u4 != (2:Int))then
         k (.inl false)
        else
         vax u0 u2 u3 u4 u5 u6 u7 u8 u9 u10 u11 u12 u13 u14 u15 u16 u17 (fun z9=>
          k (.inr z9))
       else
        vax u0 u2 u3 u4 u5 u6 u7 u8 u9 u10 u11 u12 u13 u14 u15 u16 u17 (fun z10=>
         k (.inr z10)))
  else
   bif (!u1)then
    vns (u3,(u4,(u5,(u6,(u7,(u8,(u9,u10))))))) (fun y11=>
     bif (!y11)then
      k (.inl false)
     else
      bif (u2==(1:Int))then
       bif (u4 != (3:Int))then
        k (.inl false)
       else
        bif (u2==(2:Int))then
         bif (u4 != (2:Int))then
          k (.inl false)
         else
          vax u0 u2 u3 u4 u5 u6 u7 u8 u9 u10 u11 u12 u13 u14 u15 u16 u17 (fun z12=>
           k (.inr z12))
        else
         vax u0 u2 u3 u4 u5 u6 u7 u8 u9 u10 u11 u12 u13 u14 u15 u16 u17 (fun z13=>
          k (.inr z13))
      else
       bif (u2==(2:Int))then
        bif (u4 != (2:Int))then
         k (.inl false)
        else
         vax u0 u2 u3 u4 u5 u6 u7 u8 u9 u10 u11 u12 u13 u14 u15 u16 u17 (fun z14=>
          k (.inr z14))
       else
        vax u0 u2 u3 u4 u5 u6 u7 u8 u9 u10 u11 u12 u13 u14 u15 u16 u17 (fun z15=>
         k (.inr z15)))
   else
    bif (u2==(1:Int))then
     bif (u4 != (3:Int))then
      k (.inl false)
     else
      bif (u2==(2:Int))then
       bif (u4 != (2:Int))then
        k (.inl false)
       else
        vax u0 u2 u3 u4 u5 u6 u7 u8 u9 u10 u11 u12 u13 u14 u15 u16 u17 (fun z16=>
         k (.inr z16))
      else
       vax u0 u2 u3 u4 u5 u6 u7 u8 u9 u10 u11 u12 u13 u14 u15 u16 u17 (fun z17=>
        k (.inr z17))
    else
     bif (u2==(2:Int))then
      bif (u4 != (2:Int))then
       k (.inl false)
      else
       vax u0 u2 u3 u4 u5 u6 u7 u8 u9 u10 u11 u12 u13 u14 u15 u16 u17 (fun z18=>
        k (.inr z18))
     else
      vax u0 u2 u3 u4 u5 u6 u7 u8 u9 u10 u11 u12 u13 u14 u15 u16 u17 (fun z19=>
       k (.inr z19))
theorem v0t {u0} {u1} {u2} {u3} {u4} {u5} {u6} {u7} {u8} {u9} {u10} {u11} {u12} {u13} {u14} {u15} {u16} {u17}  {K:(q26T⊕q32T)→Option Res}:vdk (u0,u1,u2,u3,u4,u5,u6,u7,u8,u9,u10,u11,u12,u13,u14,u15,u16,u17) K=vem u0 u1 u2 u3 u4 u5 u6 u7 u8 u9 u10 u11 u12 u13 u14 u15 u16 u17 (Sum.elim (fun z=>K (.inl (z,u1,u2,u3,u4,u5,u6,u7,u8,u9,u10,u11,u12,u13,u14,u15,u16,u17))) (fun z=>K (.inr (z,u2,u3,u4,u5,u6,u7,u8,u9,u10,u11,u12,u13,u14,u15,u16,u17)))):=by
 simp only [vdk,vem,v17,Sum.elim_inl,Sum.elim_inr]
def wnn (a0:vcd)(k:Bool→Option Res):Option Res:=
 vci a0.1 (1:Int) (4:Int) (fun y24=>
  bif (!y24)then
   k false
  else
   bif (a0.1==(1:Int))then
    vem false true a0.1 a0.2.1.1 a0.2.1.2.1 a0.2.1.2.2.1 a0.2.1.2.2.2.1 a0.2.1.2.2.2.2.1 a0.2.1.2.2.2.2.2.1 a0.2.1.2.2.2.2.2.2.1 a0.2.1.2.2.2.2.2.2.2 a0.2.2.1 a0.2.2.2.1 a0.2.2.2.2.1 a0.2.2.2.2.2.1 a0.2.2.2.2.2.2.1 a0.2.2.2.2.2.2.2.1 a0.2.2.2.2.2.2.2.2 (Sum.elim (fun z25=>
     k z25) (fun z26=>
     k z26))
   else
    vem false (a0.1==(2:Int)) a0.1 a0.2.1.1 a0.2.1.2.1 a0.2.1.2.2.1 a0.2.1.2.2.2.1 a0.2.1.2.2.2.2.1 a0.2.1.2.2.2.2.2.1 a0.2.1.2.2.2.2.2.2.1 a0.2.1.2.2.2.2.2.2.2 a0.2.2.1 a0.2.2.2.1 a0.2.2.2.2.1 a0.2.2.2.2.2.1 a0.2.2.2.2.2.2.1 a0.2.2.2.2.2.2.2.1 a0.2.2.2.2.2.2.2.2 (Sum.elim (fun z27=>
     k z27) (fun z28=>
     k z28)))
theorem w3n {a0:vcd}  {k:Bool→Option Res}:v25 a0 k=wnn a0 k:=by
 rw [wmb]
 simp only [wgd,wnn,v0t,Sum.elim_inl,Sum.elim_inr]
def vji (u2:Int)(u3:Int)(u4:Int)(u5:Int)(u6:(List vai))(u7:(List vag))(u8:Bool)(u9:ByteArray):List vai→ByteArray→Nat→((ByteArray×Int)→Option Res)→Option Res
 |[],s0,i,k=>
  k (s0,(i:Int))
 |y::l,s0,i,k=>
  vdi y.1 (fun y1=>
   if s0.size+y1.size≤1099511627776 then
    vdi y.2 (fun y2=>
     if(s0++y1).size+y2.size≤1099511627776 then
      vji u2 u3 u4 u5 u6 u7 u8 u9 l ((s0++y1)++y2) (i+1) k
     else none)
   else none)
theorem wlt {u2} {u3} {u4} {u5} {u6} {u7} {u8} {u9}(h0:u6.length<9223372036854775807){K:q54T→Option Res}:∀(l:List vai)(i:Nat)(s0:ByteArray)(n:Nat),u6.drop i=l→l.length<n→vae vi6 n (s0,(i:Int),u2,u3,u4,u5,u6,u7,u8,u9) K=vji u2 u3 u4 u5 u6 u7 u8 u9 l s0 i (fun z=>K (z.1,z.2,u2,u3,u4,u5,u6,u7,u8,u9)):=by
 intro l
 induction l with
 |nil=>
  intro i s0 n hd hn
  have hge:=vbh hd
  cases n with
  |zero=>exact absurd hn (Nat.not_lt_zero _)
  |succ n=>simp only [vae,vi6,vji,hge,decide_false,cond_false,Sum.elim_inr,Sum.elim_inl]
 |cons y l ih=>
  intro i s0 n hd hn
  obtain⟨hlt,hz,hd2,hw,hnn⟩:=va7 hd h0
  have hy:=va1 hd
  cases n with
  |zero=>exact absurd hn (Nat.not_lt_zero _)
  |succ n=>
   have ih2:=fun(s0:ByteArray)=>ih (i+1) s0 n hd2 (Nat.lt_of_succ_lt_succ hn)
   simp only [vae,vi6,vji,hlt,hz,decide_true,cond_true,and_self,if_true,hy,hw,hnn,Sum.elim_inl,Sum.elim_inr,ih2]
theorem wrk {u2} {u3} {u4} {u5} {u6} {u7} {u8} {u9}(h0:u6.length<9223372036854775807){K:q54T→Option Res}{s0:ByteArray}:vae vi6 Fuel (s0,(0:Int),u2,u3,u4,u5,u6,u7,u8,u9) K=vji u2 u3 u4 u5 u6 u7 u8 u9 u6 s0 0 (fun z=>K (z.1,z.2,u2,u3,u4,u5,u6,u7,u8,u9)):=
 wlt h0 u6 0 s0 Fuel rfl (va9 h0)
def vje (u2:Int)(u3:Int)(u4:Int)(u5:Int)(u6:(List vai))(u7:(List vag))(u8:Bool)(u9:ByteArray):List vag→ByteArray→Nat→((ByteArray×Int)→Option Res)→Option Res
 |[],s0,i,k=>
  k (s0,(i:Int))
 |y::l,s0,i,k=>
  vdi y.1 (fun y1=>
   if s0.size+y1.size≤1099511627776 then
    vdi y.2.1 (fun y2=>
     if(s0++y1).size+y2.size≤1099511627776 then
      vio y.2.2 (fun y3=>
       if((s0++y1)++y2).size+y3.size≤1099511627776 then
        vje u2 u3 u4 u5 u6 u7 u8 u9 l (((s0++y1)++y2)++y3) (i+1) k
       else none)
     else none)
   else none)
theorem wql {u2} {u3} {u4} {u5} {u6} {u7} {u8} {u9}(h0:u7.length<9223372036854775807){K:q54T→Option Res}:∀(l:List vag)(i:Nat)(s0:ByteArray)(n:Nat),u7.drop i=l→l.length<n→vae vjl n (s0,(i:Int),u2,u3,u4,u5,u6,u7,u8,u9) K=vje u2 u3 u4 u5 u6 u7 u8 u9 l s0 i (fun z=>K (z.1,z.2,u2,u3,u4,u5,u6,u7,u8,u9)):=by
 intro l
 induction l with
 |nil=>
  intro i s0 n hd hn
  have hge:=vbh hd
  cases n with
  |zero=>exact absurd hn (Nat.not_lt_zero _)
  |succ n=>simp only [vae,vjl,vje,hge,decide_false,cond_false,Sum.elim_inr,Sum.elim_inl]
 |cons y l ih=>
  intro i s0 n hd hn
  obtain⟨hlt,hz,hd2,hw,hnn⟩:=va7 hd h0
  have hy:=va1 hd
  cases n with
  |zero=>exact absurd hn (Nat.not_lt_zero _)
  |succ n=>
   have ih2:=fun(s0:ByteArray)=>ih (i+1) s0 n hd2 (Nat.lt_of_succ_lt_succ hn)
   simp only [vae,vjl,vje,hlt,hz,decide_true,cond_true,and_self,if_true,hy,hw,hnn,Sum.elim_inl,Sum.elim_inr,ih2]
theorem wlp {u2} {u3} {u4} {u5} {u6} {u7} {u8} {u9}(h0:u7.length<9223372036854775807){K:q54T→Option Res}{s0:ByteArray}:vae vjl Fuel (s0,(0:Int),u2,u3,u4,u5,u6,u7,u8,u9) K=vje u2 u3 u4 u5 u6 u7 u8 u9 u7 s0 0 (fun z=>K (z.1,z.2,u2,u3,u4,u5,u6,u7,u8,u9)):=
 wql h0 u7 0 s0 Fuel rfl (va9 h0)
def wfb (a0:dTxn)(k:(ByteArray×Bool)→Option Res):Option Res:=
 vf2 a0 (fun y24=>
  bif (!y24)then
   k ((⟨#[]⟩:ByteArray),false)
  else
   vb2 a0.1 (fun y25=>
    vb2 a0.2.1 (fun y26=>
     if y25.size+y26.size≤1099511627776 then
      vb2 a0.2.2.1 (fun y27=>
       if(y25++y26).size+y27.size≤1099511627776 then
        vb2 a0.2.2.2.1 (fun y28=>
         if((y25++y26)++y27).size+y28.size≤1099511627776 then
          vb2 (a0.2.2.2.2.1.length:Int) (fun y29=>
           if(((y25++y26)++y27)++y28).size+y29.size≤1099511627776 then
            vji a0.1 a0.2.1 a0.2.2.1 a0.2.2.2.1 a0.2.2.2.2.1 a0.2.2.2.2.2.1 a0.2.2.2.2.2.2.1 a0.2.2.2.2.2.2.2 a0.2.2.2.2.1 ((((y25++y26)++y27)++y28)++y29) 0 (fun z30=>
             vb2 (a0.2.2.2.2.2.1.length:Int) (fun y31=>
              if z30.1.size+y31.size≤1099511627776 then
               vje a0.1 a0.2.1 a0.2.2.1 a0.2.2.2.1 a0.2.2.2.2.1 a0.2.2.2.2.2.1 a0.2.2.2.2.2.2.1 a0.2.2.2.2.2.2.2 a0.2.2.2.2.2.1 (z30.1++y31) 0 (fun z32=>
                vio a0.2.2.2.2.2.2.1 (fun y33=>
                 if z32.1.size+y33.size≤1099511627776 then
                  vdi a0.2.2.2.2.2.2.2 (fun y34=>
                   if(z32.1++y33).size+y34.size≤1099511627776 then
                    k (((z32.1++y33)++y34),true)
                   else none)
                 else none))
              else none))
           else none)
         else none)
       else none)
     else none)))
theorem w0c {a0:dTxn}(h0:a0.2.2.2.2.2.1.length<9223372036854775807)(h1:a0.2.2.2.2.1.length<9223372036854775807){k:(ByteArray×Bool)→Option Res}:vnt a0 k=wfb a0 k:=by
 rw [wez]
 simp only [v56,wfb,(wlp h0),(wrk h1),Sum.elim_inl,Sum.elim_inr]
def vjg (u0:(List dTxn)):List dTxn→ByteArray→Nat→((ByteArray×Int)→Option Res)→Option Res
 |[],s1,i,k=>
  k (s1,(i:Int))
 |y::l,s1,i,k=>
  vnt y (fun y1=>
   if s1.size+y1.1.size≤1099511627776 then
    vjg u0 l (s1++y1.1) (i+1) k
   else none)
theorem wlw {u0}(h0:u0.length<9223372036854775807){K:q8T→Option Res}:∀(l:List dTxn)(i:Nat)(s1:ByteArray)(n:Nat),u0.drop i=l→l.length<n→vae vi8 n (u0,s1,(i:Int)) K=vjg u0 l s1 i (fun z=>K (u0,z.1,z.2)):=by
 intro l
 induction l with
 |nil=>
  intro i s1 n hd hn
  have hge:=vbh hd
  cases n with
  |zero=>exact absurd hn (Nat.not_lt_zero _)
  |succ n=>simp only [vae,vi8,vjg,hge,decide_false,cond_false,Sum.elim_inr,Sum.elim_inl]
 |cons y l ih=>
  intro i s1 n hd hn
  obtain⟨hlt,hz,hd2,hw,hnn⟩:=va7 hd h0
  have hy:=va1 hd
  cases n with
  |zero=>exact absurd hn (Nat.not_lt_zero _)
  |succ n=>
   have ih2:=fun(s1:ByteArray)=>ih (i+1) s1 n hd2 (Nat.lt_of_succ_lt_succ hn)
   simp only [vae,vi8,vjg,hlt,hz,decide_true,cond_true,and_self,if_true,hy,hw,hnn,Sum.elim_inl,Sum.elim_inr,ih2]
theorem wp9 {u0}(h0:u0.length<9223372036854775807){K:q8T→Option Res}{s1:ByteArray}:vae vi8 Fuel (u0,s1,(0:Int)) K=vjg u0 u0 s1 0 (fun z=>K (u0,z.1,z.2)):=
 wlw h0 u0 0 s1 Fuel rfl (va9 h0)
def wdr (a0:(List dTxn))(k:ByteArray→Option Res):Option Res:=
 vb2 (a0.length:Int) (fun y24=>
  vjg a0 a0 y24 0 (fun z25=>
   k z25.1))
theorem wy6 {a0:(List dTxn)}(h0:a0.length<9223372036854775807){k:ByteArray→Option Res}:vnj a0 k=wdr a0 k:=by
 rw [wb9]
 simp only [v59,wdr,(wp9 h0),Sum.elim_inl,Sum.elim_inr]
def vow (u2:(List vaa))(u3:(List dTxn))(u4:(List dTxn))(u5:Int)(u6:Int):List vaa→ByteArray→Nat→((ByteArray×Int)→Option Res)→Option Res
 |[],s0,i,k=>
  k (s0,(i:Int))
 |y::l,s0,i,k=>
  vdi y.1 (fun y1=>
   if s0.size+y1.size≤1099511627776 then
    vdi y.2.1 (fun y2=>
     if(s0++y1).size+y2.size≤1099511627776 then
      vio y.2.2.1 (fun y3=>
       if((s0++y1)++y2).size+y3.size≤1099511627776 then
        vb2 y.2.2.2 (fun y4=>
         if(((s0++y1)++y2)++y3).size+y4.size≤1099511627776 then
          vow u2 u3 u4 u5 u6 l ((((s0++y1)++y2)++y3)++y4) (i+1) k
         else none)
       else none)
     else none)
   else none)
theorem wvo {u2} {u3} {u4} {u5} {u6}(h0:u2.length<9223372036854775807){K:q45T→Option Res}:∀(l:List vaa)(i:Nat)(s0:ByteArray)(n:Nat),u2.drop i=l→l.length<n→vae voj n (s0,(i:Int),u2,u3,u4,u5,u6) K=vow u2 u3 u4 u5 u6 l s0 i (fun z=>K (z.1,z.2,u2,u3,u4,u5,u6)):=by
 intro l
 induction l with
 |nil=>
  intro i s0 n hd hn
  have hge:=vbh hd
  cases n with
  |zero=>exact absurd hn (Nat.not_lt_zero _)
  |succ n=>simp only [vae,voj,vow,hge,decide_false,cond_false,Sum.elim_inr,Sum.elim_inl]
 |cons y l ih=>
  intro i s0 n hd hn
  obtain⟨hlt,hz,hd2,hw,hnn⟩:=va7 hd h0
  have hy:=va1 hd
  cases n with
  |zero=>exact absurd hn (Nat.not_lt_zero _)
  |succ n=>
   have ih2:=fun(s0:ByteArray)=>ih (i+1) s0 n hd2 (Nat.lt_of_succ_lt_succ hn)
   simp only [vae,voj,vow,hlt,hz,decide_true,cond_true,and_self,if_true,hy,hw,hnn,Sum.elim_inl,Sum.elim_inr,ih2]
theorem wr5 {u2} {u3} {u4} {u5} {u6}(h0:u2.length<9223372036854775807){K:q45T→Option Res}{s0:ByteArray}:vae voj Fuel (s0,(0:Int),u2,u3,u4,u5,u6) K=vow u2 u3 u4 u5 u6 u2 s0 0 (fun z=>K (z.1,z.2,u2,u3,u4,u5,u6)):=
 wvo h0 u2 0 s0 Fuel rfl (va9 h0)
def wma (a0:vfd)(k:(ByteArray×Bool)→Option Res):Option Res:=
 vrl a0 (fun y24=>
  bif (!y24)then
   k ((⟨#[]⟩:ByteArray),false)
  else
   vb2 a0.2.2.2.1 (fun y25=>
    vb2 a0.2.2.2.2 (fun y26=>
     if y25.size+y26.size≤1099511627776 then
      vb2 (a0.1.length:Int) (fun y27=>
       if(y25++y26).size+y27.size≤1099511627776 then
        vow a0.1 a0.2.1 a0.2.2.1 a0.2.2.2.1 a0.2.2.2.2 a0.1 ((y25++y26)++y27) 0 (fun z28=>
         vnj a0.2.1 (fun y29=>
          if z28.1.size+y29.size≤1099511627776 then
           vnj a0.2.2.1 (fun y30=>
            if(z28.1++y29).size+y30.size≤1099511627776 then
             k (((z28.1++y29)++y30),true)
            else none)
          else none))
       else none)
     else none)))
theorem w2s {a0:vfd}(h0:a0.1.length<9223372036854775807){k:(ByteArray×Bool)→Option Res}:v46 a0 k=wma a0 k:=by
 rw [wm5]
 simp only [whj,wma,(wr5 h0),Sum.elim_inl,Sum.elim_inr]
def vo4 (u0:ByteArray)(u1:Bool):List Int→Nat→(((Bool×Int)⊕Int)→Option Res)→Option Res
 |[],i,k=>
  k (.inr (i:Int))
 |y::l,i,k=>
  bif (decide (y<(97:Int)))then
   k (.inl (false,(i:Int)))
  else
   bif (decide (y>(122:Int)))then
    k (.inl (false,(i:Int)))
   else
    vo4 u0 u1 l (i+1) k
theorem wrz {u0} {u1}(h0:u0.size<9223372036854775807){K:((ByteArray×Bool×Int)⊕(ByteArray×Bool×Int))→Option Res}:∀(l:List Int)(i:Nat)  (n:Nat),(vah u0).drop i=l→l.length<n→vae vny n (u0,u1,(i:Int)) K=vo4 u0 u1 l  i (Sum.elim (fun z=>K (.inl (u0,z.1,z.2))) (fun z=>K (.inr (u0,u1,z)))):=by
 intro l
 induction l with
 |nil=>
  intro i  n hd hn
  have hge:=v5w hd
  cases n with
  |zero=>exact absurd hn (Nat.not_lt_zero _)
  |succ n=>simp only [vae,vny,vo4,hge,decide_false,cond_false,Sum.elim_inr,Sum.elim_inl]
 |cons y l ih=>
  intro i  n hd hn
  obtain⟨hlt,hz,hd2,hw,hnn⟩:=wga hd h0
  have hy:=wdz hd
  cases n with
  |zero=>exact absurd hn (Nat.not_lt_zero _)
  |succ n=>
   have ih2:=ih (i+1)  n hd2 (Nat.lt_of_succ_lt_succ hn)
   simp only [vae,vny,vo4,hlt,hz,decide_true,cond_true,and_self,if_true,hy,hw,hnn,Sum.elim_inl,Sum.elim_inr,ih2]
theorem wtr {u0} {u1}(h0:u0.size<9223372036854775807){K:((ByteArray×Bool×Int)⊕(ByteArray×Bool×Int))→Option Res}  : vae vny Fuel (u0,u1,(0:Int)) K=vo4 u0 u1 (vah u0)  0 (Sum.elim (fun z=>K (.inl (u0,z.1,z.2))) (fun z=>K (.inr (u0,u1,z)))):=
 wrz h0 (vah u0) 0  Fuel rfl (whc h0)
def wn5 (a0:ByteArray)(k:Bool→Option Res):Option Res:=
 vo4 a0 false (vah a0)  0 (Sum.elim (fun z24=>
  k z24.1) (fun _=>
  vdl (a0.size:Int) (1:Int) (3:Int) (fun y26=>
   k y26)))
theorem w2g {a0:ByteArray}(h0:a0.size<9223372036854775807){k:Bool→Option Res}:vjs a0 k=wn5 a0 k:=by
 rw [wpw]
 simp only [wgt,wn5,(wtr h0),Sum.elim_inl,Sum.elim_inr]
def vng (u0:(List vag))(u1:Bool)(u2:(List vag)):List vag→Nat→(((Bool×Int)⊕Int)→Option Res)→Option Res
 |[],i,k=>
  k (.inr (i:Int))
 |y::l,i,k=>
  v3m y (fun y1=>
   bif (!y1)then
    k (.inl (false,(i:Int)))
   else
    bif (decide ((i:Int)>(0:Int)))then
     if 0≤(IntKind.wrap .i64 ((i:Int)-(1:Int)))∧(IntKind.wrap .i64 ((i:Int)-(1:Int)))<(u0.length:Int)then
      bif (!(va3 ((rd (Ty.zero tWrite) u0 (IntKind.wrap .i64 ((i:Int)-(1:Int)))).1) (y.1)))then
       k (.inl (false,(i:Int)))
      else
       vng u0 u1 u2 l (i+1) k
     else none
    else
     vng u0 u1 u2 l (i+1) k)
theorem wsj {u0} {u1} {u2}(h0:u2.length<9223372036854775807){K:(q18T⊕q18T)→Option Res}:∀(l:List vag)(i:Nat)  (n:Nat),u2.drop i=l→l.length<n→vae vnr n (u0,u1,u2,(u2.length:Int),(i:Int)) K=vng u0 u1 u2 l  i (Sum.elim (fun z=>K (.inl (u0,z.1,u2,(u2.length:Int),z.2))) (fun z=>K (.inr (u0,u1,u2,(u2.length:Int),z)))):=by
 intro l
 induction l with
 |nil=>
  intro i  n hd hn
  have hge:=vbh hd
  cases n with
  |zero=>exact absurd hn (Nat.not_lt_zero _)
  |succ n=>simp only [vae,vnr,vng,hge,decide_false,cond_false,Sum.elim_inr,Sum.elim_inl]
 |cons y l ih=>
  intro i  n hd hn
  obtain⟨hlt,hz,hd2,hw,hnn⟩:=va7 hd h0
  have hy:=va1 hd
  cases n with
  |zero=>exact absurd hn (Nat.not_lt_zero _)
  |succ n=>
   have ih2:=ih (i+1)  n hd2 (Nat.lt_of_succ_lt_succ hn)
   simp only [vae,vnr,vng,hlt,hz,decide_true,cond_true,and_self,if_true,hy,hw,hnn,Sum.elim_inl,Sum.elim_inr,ih2]
theorem wul {u0} {u1} {u2}(h0:u2.length<9223372036854775807){K:(q18T⊕q18T)→Option Res}  : vae vnr Fuel (u0,u1,u2,(u2.length:Int),(0:Int)) K=vng u0 u1 u2 u2  0 (Sum.elim (fun z=>K (.inl (u0,z.1,u2,(u2.length:Int),z.2))) (fun z=>K (.inr (u0,u1,u2,(u2.length:Int),z)))):=
 wsj h0 u2 0  Fuel rfl (va9 h0)
def wol (a0:(List vag))(k:Bool→Option Res):Option Res:=
 vng a0 false a0 a0  0 (Sum.elim (fun z24=>
  k z24.1) (fun _=>
  k (decide ((a0.length:Int)≤(8:Int)))))
theorem w3v {a0:(List vag)}(h0:a0.length<9223372036854775807){k:Bool→Option Res}:vye a0 k=wol a0 k:=by
 rw [wm4]
 simp only [whw,wol,(wul h0),Sum.elim_inl,Sum.elim_inr]
def vc4 (u0:Bool)(u1:Int)(u2:Int)(u3:Int)(u4:Int)(u5:(List vai))(u6:(List vag))(u7:Bool)(u8:ByteArray)(k:Bool→Option Res):Option Res:=
  bif (u2==(2:Int))then
   vjs u8 (fun y1=>
    bif y1 then
     k true
    else
     bif (u2 != (2:Int))then
      k (vap u8 (⟨#[]⟩:ByteArray))
     else
      k false)
  else
   bif (u2 != (2:Int))then
    k (vap u8 (⟨#[]⟩:ByteArray))
   else
    k false
theorem v1n {u0} {u1} {u2} {u3} {u4} {u5} {u6} {u7} {u8}  {K:q31T→Option Res}:vcl (u0,u1,u2,u3,u4,u5,u6,u7,u8) K=vc4 u0 u1 u2 u3 u4 u5 u6 u7 u8 (fun z=>K (z,u1,u2,u3,u4,u5,u6,u7,u8)):=by
 simp only [vcl,vc4,Sum.elim_inl,Sum.elim_inr]
def vej (u0:Bool)(u1:Int)(u2:Int)(u3:Int)(u4:Int)(u5:(List vai))(u6:(List vag))(u7:Bool)(u8:ByteArray)(k:Bool→Option Res):Option Res:=
  bif (u2==(3:Int))then
   vdl u4 (IntKind.wrap .i64 (u3+(1:Int))) (9999:Int) (fun y1=>
    bif (!y1)then
     k false
    else
     bif (u2 != (3:Int))then
      bif (u4 != (0:Int))then
       k false
      else
       vc4 u0 u1 u2 u3 u4 u5 u6 u7 u8 (fun z2=>
        k z2)
     else
      vc4 u0 u1 u2 u3 u4 u5 u6 u7 u8 (fun z3=>
       k z3))
  else
   bif (u2 != (3:Int))then
    bif (u4 != (0:Int))then
     k false
    else
     vc4 u0 u1 u2 u3 u4 u5 u6 u7 u8 (fun z4=>
      k z4)
   else
    vc4 u0 u1 u2 u3 u4 u5 u6 u7 u8 (fun z5=>
     k z5)
theorem v0u {u0} {u1} {u2} {u3} {u4} {u5} {u6} {u7} {u8}  {K:q31T→Option Res}:vdg (u0,u1,u2,u3,u4,u5,u6,u7,u8) K=vej u0 u1 u2 u3 u4 u5 u6 u7 u8 (fun z=>K (z,u1,u2,u3,u4,u5,u6,u7,u8)):=by
 simp only [vdg,vej,v1n,Sum.elim_inl,Sum.elim_inr]
def vpt (u0:Bool)(u1:(List vai))(u4:Int)(u5:Int)(u6:Int)(u7:Int)(u8:(List vai))(u9:(List vag))(u10:Bool)(u11:ByteArray):List vai→Nat→(((Bool×Int)⊕Int)→Option Res)→Option Res
 |[],i,k=>
  k (.inr (i:Int))
 |y::l,i,k=>
  v28 y (fun y1=>
   bif (!y1)then
    k (.inl (false,(i:Int)))
   else
    vpt u0 u1 u4 u5 u6 u7 u8 u9 u10 u11 l (i+1) k)
theorem wtx {u0} {u1} {u4} {u5} {u6} {u7} {u8} {u9} {u10} {u11}(h0:u1.length<9223372036854775807){K:(q21T⊕q21T)→Option Res}:∀(l:List vai)(i:Nat)  (n:Nat),u1.drop i=l→l.length<n→vae vp7 n (u0,u1,(u1.length:Int),(i:Int),u4,u5,u6,u7,u8,u9,u10,u11) K=vpt u0 u1 u4 u5 u6 u7 u8 u9 u10 u11 l  i (Sum.elim (fun z=>K (.inl (z.1,u1,(u1.length:Int),z.2,u4,u5,u6,u7,u8,u9,u10,u11))) (fun z=>K (.inr (u0,u1,(u1.length:Int),z,u4,u5,u6,u7,u8,u9,u10,u11)))):=by
 intro l
 induction l with
 |nil=>
  intro i  n hd hn
  have hge:=vbh hd
  cases n with
  |zero=>exact absurd hn (Nat.not_lt_zero _)
  |succ n=>simp only [vae,vp7,vpt,hge,decide_false,cond_false,Sum.elim_inr,Sum.elim_inl]
 |cons y l ih=>
  intro i  n hd hn
  obtain⟨hlt,hz,hd2,hw,hnn⟩:=va7 hd h0
  have hy:=va1 hd
  cases n with
  |zero=>exact absurd hn (Nat.not_lt_zero _)
  |succ n=>
   have ih2:=ih (i+1)  n hd2 (Nat.lt_of_succ_lt_succ hn)
   simp only [vae,vp7,vpt,hlt,hz,decide_true,cond_true,and_self,if_true,hy,hw,hnn,Sum.elim_inl,Sum.elim_inr,ih2]
theorem wtp {u0} {u1} {u4} {u5} {u6} {u7} {u8} {u9} {u10} {u11}(h0:u1.length<9223372036854775807){K:(q21T⊕q21T)→Option Res}  : vae vp7 Fuel (u0,u1,(u1.length:Int),(0:Int),u4,u5,u6,u7,u8,u9,u10,u11) K=vpt u0 u1 u4 u5 u6 u7 u8 u9 u10 u11 u1  0 (Sum.elim (fun z=>K (.inl (z.1,u1,(u1.length:Int),z.2,u4,u5,u6,u7,u8,u9,u10,u11))) (fun z=>K (.inr (u0,u1,(u1.length:Int),z,u4,u5,u6,u7,u8,u9,u10,u11)))):=
 wtx h0 u1 0  Fuel rfl (va9 h0)
def wl4 (a0:dTxn)(k:Bool→Option Res):Option Res:=
 vpt false a0.2.2.2.2.1 a0.1 a0.2.1 a0.2.2.1 a0.2.2.2.1 a0.2.2.2.2.1 a0.2.2.2.2.2.1 a0.2.2.2.2.2.2.1 a0.2.2.2.2.2.2.2 a0.2.2.2.2.1  0 (Sum.elim (fun z24=>
  k z24.1) (fun _=>
  vdl a0.1 (1:Int) (9999:Int) (fun y26=>
   bif (!y26)then
    k false
   else
    vdl a0.2.1 (1:Int) (3:Int) (fun y27=>
     bif (!y27)then
      k false
     else
      vdl a0.2.2.1 (0:Int) (9999:Int) (fun y28=>
       bif (!y28)then
        k false
       else
        bif (decide ((a0.2.2.2.2.1.length:Int)>(8:Int)))then
         k false
        else
         vye a0.2.2.2.2.2.1 (fun y29=>
          bif (!y29)then
           k false
          else
           bif a0.2.2.2.2.2.2.1 then
            bif (a0.2.1==(1:Int))then
             k false
            else
             vej false a0.1 a0.2.1 a0.2.2.1 a0.2.2.2.1 a0.2.2.2.2.1 a0.2.2.2.2.2.1 a0.2.2.2.2.2.2.1 a0.2.2.2.2.2.2.2 (fun z30=>
              k z30)
           else
            vej false a0.1 a0.2.1 a0.2.2.1 a0.2.2.2.1 a0.2.2.2.2.1 a0.2.2.2.2.2.1 a0.2.2.2.2.2.2.1 a0.2.2.2.2.2.2.2 (fun z31=>
             k z31)))))))
theorem w2j {a0:dTxn}(h0:a0.2.2.2.2.1.length<9223372036854775807){k:Bool→Option Res}:vhg a0 k=wl4 a0 k:=by
 rw [wqr]
 simp only [wis,wl4,v0u,(wtp h0),Sum.elim_inl,Sum.elim_inr]
def vin (u0:(List vaa))(u1:Bool)(u2:(List vaa)):List vaa→Nat→(((Bool×Int)⊕Int)→Option Res)→Option Res
 |[],i,k=>
  k (.inr (i:Int))
 |y::l,i,k=>
  vjs y.1 (fun y1=>
   bif (!y1)then
    k (.inl (false,(i:Int)))
   else
    bif (decide ((y.2.1.size:Int)>(12:Int)))then
     k (.inl (false,(i:Int)))
    else
     bif y.2.2.1 then
      bif (!(vap (y.2.1) (⟨#[]⟩:ByteArray)))then
       k (.inl (false,(i:Int)))
      else
       vdl y.2.2.2 (1:Int) (9999:Int) (fun y2=>
        bif (!y2)then
         k (.inl (false,(i:Int)))
        else
         bif (decide ((i:Int)>(0:Int)))then
          if 0≤(IntKind.wrap .i64 ((i:Int)-(1:Int)))∧(IntKind.wrap .i64 ((i:Int)-(1:Int)))<(u0.length:Int)then
           vv1 (rd (Ty.zero tVersion) u0 (IntKind.wrap .i64 ((i:Int)-(1:Int)))) y (fun y3=>
            bif (decide (y3≥(0:Int)))then
             k (.inl (false,(i:Int)))
            else
             vin u0 u1 u2 l (i+1) k)
          else none
         else
          vin u0 u1 u2 l (i+1) k)
     else
      vdl y.2.2.2 (1:Int) (9999:Int) (fun y4=>
       bif (!y4)then
        k (.inl (false,(i:Int)))
       else
        bif (decide ((i:Int)>(0:Int)))then
         if 0≤(IntKind.wrap .i64 ((i:Int)-(1:Int)))∧(IntKind.wrap .i64 ((i:Int)-(1:Int)))<(u0.length:Int)then
          vv1 (rd (Ty.zero tVersion) u0 (IntKind.wrap .i64 ((i:Int)-(1:Int)))) y (fun y5=>
           bif (decide (y5≥(0:Int)))then
            k (.inl (false,(i:Int)))
           else
            vin u0 u1 u2 l (i+1) k)
         else none
        else
         vin u0 u1 u2 l (i+1) k))
theorem wst {u0} {u1} {u2}(h0:u2.length<9223372036854775807){K:(q13T⊕q13T)→Option Res}:∀(l:List vaa)(i:Nat)  (n:Nat),u2.drop i=l→l.length<n→vae vp0 n (u0,u1,u2,(u2.length:Int),(i:Int)) K=vin u0 u1 u2 l  i (Sum.elim (fun z=>K (.inl (u0,z.1,u2,(u2.length:Int),z.2))) (fun z=>K (.inr (u0,u1,u2,(u2.length:Int),z)))):=by
 intro l
 induction l with
 |nil=>
  intro i  n hd hn
  have hge:=vbh hd
  cases n with
  |zero=>exact absurd hn (Nat.not_lt_zero _)
  |succ n=>simp only [vae,vp0,vin,hge,decide_false,cond_false,Sum.elim_inr,Sum.elim_inl]
 |cons y l ih=>
  intro i  n hd hn
  obtain⟨hlt,hz,hd2,hw,hnn⟩:=va7 hd h0
  have hy:=va1 hd
  cases n with
  |zero=>exact absurd hn (Nat.not_lt_zero _)
  |succ n=>
   have ih2:=ih (i+1)  n hd2 (Nat.lt_of_succ_lt_succ hn)
   simp only [vae,vp0,vin,hlt,hz,decide_true,cond_true,and_self,if_true,hy,hw,hnn,Sum.elim_inl,Sum.elim_inr,ih2]
theorem wu8 {u0} {u1} {u2}(h0:u2.length<9223372036854775807){K:(q13T⊕q13T)→Option Res}  : vae vp0 Fuel (u0,u1,u2,(u2.length:Int),(0:Int)) K=vin u0 u1 u2 u2  0 (Sum.elim (fun z=>K (.inl (u0,z.1,u2,(u2.length:Int),z.2))) (fun z=>K (.inr (u0,u1,u2,(u2.length:Int),z)))):=
 wst h0 u2 0  Fuel rfl (va9 h0)
def wpn (a0:(List vaa))(k:Bool→Option Res):Option Res:=
 vin a0 false a0 a0  0 (Sum.elim (fun z24=>
  k z24.1) (fun _=>
  k (decide ((a0.length:Int)≤(120:Int)))))
theorem w07 {a0:(List vaa)}(h0:a0.length<9223372036854775807){k:Bool→Option Res}:vzv a0 k=wpn a0 k:=by
 rw [wq7]
 simp only [wih,wpn,(wu8 h0),Sum.elim_inl,Sum.elim_inr]
def vmn (u0:(List (List dTxn)))(u2:(List (List dTxn))):List (List dTxn)→Int→Nat→((Int×Int)→Option Res)→Option Res
 |[],s1,i,k=>
  k (s1,(i:Int))
 |y::l,s1,i,k=>
  bif (decide ((IntKind.wrap .i64 (s1+(y.length:Int)))<(0:Int)))then
   none
  else
   vmn u0 u2 l (IntKind.wrap .i64 (s1+(y.length:Int))) (i+1) k
theorem wux {u0} {u2}(h0:u2.length<9223372036854775807){K:q0T→Option Res}:∀(l:List (List dTxn))(i:Nat)(s1:Int)(n:Nat),u2.drop i=l→l.length<n→vae vpj n (u0,s1,u2,(u2.length:Int),(i:Int)) K=vmn u0 u2 l s1 i (fun z=>K (u0,z.1,u2,(u2.length:Int),z.2)):=by
 intro l
 induction l with
 |nil=>
  intro i s1 n hd hn
  have hge:=vbh hd
  cases n with
  |zero=>exact absurd hn (Nat.not_lt_zero _)
  |succ n=>simp only [vae,vpj,vmn,hge,decide_false,cond_false,Sum.elim_inr,Sum.elim_inl]
 |cons y l ih=>
  intro i s1 n hd hn
  obtain⟨hlt,hz,hd2,hw,hnn⟩:=va7 hd h0
  have hy:=va1 hd
  cases n with
  |zero=>exact absurd hn (Nat.not_lt_zero _)
  |succ n=>
   have ih2:=fun(s1:Int)=>ih (i+1) s1 n hd2 (Nat.lt_of_succ_lt_succ hn)
   simp only [vae,vpj,vmn,hlt,hz,decide_true,cond_true,and_self,if_true,hy,hw,hnn,Sum.elim_inl,Sum.elim_inr,ih2]
theorem wvy {u0} {u2}(h0:u2.length<9223372036854775807){K:q0T→Option Res}{s1:Int}:vae vpj Fuel (u0,s1,u2,(u2.length:Int),(0:Int)) K=vmn u0 u2 u2 s1 0 (fun z=>K (u0,z.1,u2,(u2.length:Int),z.2)):=
 wux h0 u2 0 s1 Fuel rfl (va9 h0)
def wng (a0:(List (List dTxn)))(k:((List dTxn)⊕(List dTxn))→Option Res):Option Res:=
 vmn a0 a0 a0 (0:Int) 0 (fun z24=>
  v4u z24.1 (Sum.elim (fun y25=>
   vae vez Fuel (.inl (a0,(a0.length:Int),(0:Int),y25)) (Sum.elim (fun z26=>
    k (.inl z26.2.2.2)) (fun z27=>
    k (.inr z27.2.2.2)))) (fun y28=>
   vae vez Fuel (.inr (a0,(a0.length:Int),(0:Int),y28)) (Sum.elim (fun z29=>
    k (.inl z29.2.2.2)) (fun z30=>
    k (.inr z30.2.2.2))))))
theorem w1e {a0:(List (List dTxn))}(h0:a0.length<9223372036854775807){k:((List dTxn)⊕(List dTxn))→Option Res}:vvv a0 k=wng a0 k:=by
 rw [wp1]
 simp only [whi,wng,(wvy h0),Sum.elim_inl,Sum.elim_inr]
def von (u0:(List dTxn))(u1:Int):List dTxn→Int→Int→Int→Int→(List vai)→(List vag)→Bool→ByteArray→Nat→(((Int×Int×Int×Int×Int×Int×(List vai)×(List vag)×Bool×ByteArray)⊕q80T)→Option Res)→Option Res
 |[],s4,s5,s6,s7,s8,s9,s10,s11,i,k=>
  k (.inr ((i:Int),s4,s5,s6,s7,s8,s9,s10,s11))
 |y::l,s4,s5,s6,s7,s8,s9,s10,s11,i,k=>
  v31 y s4 s5 s6 s7 s8 s9 s10 s11 (fun y1=>
   let y1h:=y1.2.2.2.2.2.2.2.2
   bif y1.1 then
    k (.inl ((i:Int),(i:Int),y1.2.1,y1.2.2.1,y1.2.2.2.1,y1.2.2.2.2.1,y1.2.2.2.2.2.1,y1.2.2.2.2.2.2.1,y1.2.2.2.2.2.2.2.1,y1h))
   else
    von u0 u1 l y1.2.1 y1.2.2.1 y1.2.2.2.1 y1.2.2.2.2.1 y1.2.2.2.2.2.1 y1.2.2.2.2.2.2.1 y1.2.2.2.2.2.2.2.1 y1h (i+1) k)
theorem ws1 {u0} {u1}(h0:u0.length<9223372036854775807){K:(q10T⊕q10T)→Option Res}:∀(l:List dTxn)(i:Nat)(s4:Int)(s5:Int)(s6:Int)(s7:Int)(s8:(List vai))(s9:(List vag))(s10:Bool)(s11:ByteArray)(n:Nat),u0.drop i=l→l.length<n→vae vob n (u0,u1,(u0.length:Int),(i:Int),s4,s5,s6,s7,s8,s9,s10,s11) K=von u0 u1 l s4 s5 s6 s7 s8 s9 s10 s11 i (Sum.elim (fun z=>K (.inl (u0,z.1,(u0.length:Int),z.2.1,z.2.2.1,z.2.2.2.1,z.2.2.2.2.1,z.2.2.2.2.2.1,z.2.2.2.2.2.2.1,z.2.2.2.2.2.2.2.1,z.2.2.2.2.2.2.2.2.1,z.2.2.2.2.2.2.2.2.2))) (fun z=>K (.inr (u0,u1,(u0.length:Int),z.1,z.2.1,z.2.2.1,z.2.2.2.1,z.2.2.2.2.1,z.2.2.2.2.2.1,z.2.2.2.2.2.2.1,z.2.2.2.2.2.2.2.1,z.2.2.2.2.2.2.2.2)))):=by
 intro l
 induction l with
 |nil=>
  intro i s4 s5 s6 s7 s8 s9 s10 s11 n hd hn
  have hge:=vbh hd
  cases n with
  |zero=>exact absurd hn (Nat.not_lt_zero _)
  |succ n=>simp only [vae,vob,von,hge,decide_false,cond_false,Sum.elim_inr,Sum.elim_inl]
 |cons y l ih=>
  intro i s4 s5 s6 s7 s8 s9 s10 s11 n hd hn
  obtain⟨hlt,hz,hd2,hw,hnn⟩:=va7 hd h0
  have hy:=va1 hd
  cases n with
  |zero=>exact absurd hn (Nat.not_lt_zero _)
  |succ n=>
   have ih2:=fun(s4:Int) (s5:Int) (s6:Int) (s7:Int) (s8:(List vai)) (s9:(List vag)) (s10:Bool) (s11:ByteArray)=>ih (i+1) s4 s5 s6 s7 s8 s9 s10 s11 n hd2 (Nat.lt_of_succ_lt_succ hn)
   simp only [vae,vob,von,hlt,hz,decide_true,cond_true,and_self,if_true,hy,hw,hnn,Sum.elim_inl,Sum.elim_inr,ih2]
theorem wr6 {u0} {u1}(h0:u0.length<9223372036854775807){K:(q10T⊕q10T)→Option Res}{s4:Int}{s5:Int}{s6:Int}{s7:Int}{s8:(List vai)}{s9:(List vag)}{s10:Bool}{s11:ByteArray}:vae vob Fuel (u0,u1,(u0.length:Int),(0:Int),s4,s5,s6,s7,s8,s9,s10,s11) K=von u0 u1 u0 s4 s5 s6 s7 s8 s9 s10 s11 0 (Sum.elim (fun z=>K (.inl (u0,z.1,(u0.length:Int),z.2.1,z.2.2.1,z.2.2.2.1,z.2.2.2.2.1,z.2.2.2.2.2.1,z.2.2.2.2.2.2.1,z.2.2.2.2.2.2.2.1,z.2.2.2.2.2.2.2.2.1,z.2.2.2.2.2.2.2.2.2))) (fun z=>K (.inr (u0,u1,(u0.length:Int),z.1,z.2.1,z.2.2.1,z.2.2.2.1,z.2.2.2.2.1,z.2.2.2.2.2.1,z.2.2.2.2.2.2.1,z.2.2.2.2.2.2.2.1,z.2.2.2.2.2.2.2.2)))):=
 ws1 h0 u0 0 s4 s5 s6 s7 s8 s9 s10 s11 Fuel rfl (va9 h0)
def wom (a0:(List dTxn))(a1:Int)(a2:Int)(a3:Int)(a4:Int)(a5:(List vai))(a6:(List vag))(a7:Bool)(a8:ByteArray)(k:q80T→Option Res):Option Res:=
 von a0 (0:Int) a0 a1 a2 a3 a4 a5 a6 a7 a8 0 (Sum.elim (fun z24=>
  let z24h:=z24.2.2.2.2.2.2.2.2
  k (z24.1,z24.2.2.1,z24.2.2.2.1,z24.2.2.2.2.1,z24.2.2.2.2.2.1,z24.2.2.2.2.2.2.1,z24.2.2.2.2.2.2.2.1,z24h.1,z24h.2)) (fun z25=>
  k ((-1:Int),z25.2.1,z25.2.2.1,z25.2.2.2.1,z25.2.2.2.2.1,z25.2.2.2.2.2.1,z25.2.2.2.2.2.2.1,z25.2.2.2.2.2.2.2.1,z25.2.2.2.2.2.2.2.2)))
theorem w1m {a0:(List dTxn)}{a1:Int}{a2:Int}{a3:Int}{a4:Int}{a5:(List vai)}{a6:(List vag)}{a7:Bool}{a8:ByteArray}(h0:a0.length<9223372036854775807){k:q80T→Option Res}:v83 a0 a1 a2 a3 a4 a5 a6 a7 a8 k=wom a0 a1 a2 a3 a4 a5 a6 a7 a8 k:=by
 rw [wm2]
 simp only [wg2,wom,(wr6 h0),Sum.elim_inl,Sum.elim_inr]
def vpz (u0:(List dTxn))(u1:Int)(u2:Bool)(u3:(List dTxn)):List dTxn→Nat→(((Bool×Int)⊕Int)→Option Res)→Option Res
 |[],i,k=>
  k (.inr (i:Int))
 |y::l,i,k=>
  bif (decide (y.1≥u1))then
   k (.inl (false,(i:Int)))
  else
   if 0≤(0:Int)∧(0:Int)≤(i:Int)∧(i:Int)≤(u0.length:Int)then
    v5c ((u0.take (i:Int).toNat).drop (0:Int).toNat) y.1 y.2.1 y.2.2.1 y.2.2.2.1 y.2.2.2.2.1 y.2.2.2.2.2.1 y.2.2.2.2.2.2.1 y.2.2.2.2.2.2.2 (fun y1=>
     bif y1.1 then
      k (.inl (false,(i:Int)))
     else
      vpz u0 u1 u2 u3 l (i+1) k)
   else none
theorem wu1 {u0} {u1} {u2} {u3}(h0:u3.length<9223372036854775807){K:(q9T⊕q9T)→Option Res}:∀(l:List dTxn)(i:Nat)  (n:Nat),u3.drop i=l→l.length<n→vae vpu n (u0,u1,u2,u3,(u3.length:Int),(i:Int)) K=vpz u0 u1 u2 u3 l  i (Sum.elim (fun z=>K (.inl (u0,u1,z.1,u3,(u3.length:Int),z.2))) (fun z=>K (.inr (u0,u1,u2,u3,(u3.length:Int),z)))):=by
 intro l
 induction l with
 |nil=>
  intro i  n hd hn
  have hge:=vbh hd
  cases n with
  |zero=>exact absurd hn (Nat.not_lt_zero _)
  |succ n=>simp only [vae,vpu,vpz,hge,decide_false,cond_false,Sum.elim_inr,Sum.elim_inl]
 |cons y l ih=>
  intro i  n hd hn
  obtain⟨hlt,hz,hd2,hw,hnn⟩:=va7 hd h0
  have hy:=va1 hd
  cases n with
  |zero=>exact absurd hn (Nat.not_lt_zero _)
  |succ n=>
   have ih2:=ih (i+1)  n hd2 (Nat.lt_of_succ_lt_succ hn)
   simp only [vae,vpu,vpz,hlt,hz,decide_true,cond_true,and_self,if_true,hy,hw,hnn,Sum.elim_inl,Sum.elim_inr,ih2]
theorem wuw {u0} {u1} {u2} {u3}(h0:u3.length<9223372036854775807){K:(q9T⊕q9T)→Option Res}  : vae vpu Fuel (u0,u1,u2,u3,(u3.length:Int),(0:Int)) K=vpz u0 u1 u2 u3 u3  0 (Sum.elim (fun z=>K (.inl (u0,u1,z.1,u3,(u3.length:Int),z.2))) (fun z=>K (.inr (u0,u1,u2,u3,(u3.length:Int),z)))):=
 wu1 h0 u3 0  Fuel rfl (va9 h0)
def wo9 (a0:(List dTxn))(a1:Int)(k:Bool→Option Res):Option Res:=
 vpz a0 a1 false a0 a0  0 (Sum.elim (fun z24=>
  k z24.1) (fun _=>
  k true))
theorem w1a {a0:(List dTxn)}{a1:Int}(h0:a0.length<9223372036854775807){k:Bool→Option Res}:vt8 a0 a1 k=wo9 a0 a1 k:=by
 rw [wp7]
 simp only [wg8,wo9,(wuw h0),Sum.elim_inl,Sum.elim_inr]
def vp6 (u0:Bool)(u1:(List vaa))(u4:(List vaa))(u5:(List dTxn))(u6:(List dTxn))(u7:Int)(u8:Int):List vaa→Nat→(((Bool×Int)⊕Int)→Option Res)→Option Res
 |[],i,k=>
  k (.inr (i:Int))
 |y::l,i,k=>
  bif (decide (y.2.2.2>u7))then
   k (.inl (false,(i:Int)))
  else
   vp6 u0 u1 u4 u5 u6 u7 u8 l (i+1) k
theorem wut {u0} {u1} {u4} {u5} {u6} {u7} {u8}(h0:u1.length<9223372036854775807){K:(q24T⊕q24T)→Option Res}:∀(l:List vaa)(i:Nat)  (n:Nat),u1.drop i=l→l.length<n→vae voy n (u0,u1,(u1.length:Int),(i:Int),u4,u5,u6,u7,u8) K=vp6 u0 u1 u4 u5 u6 u7 u8 l  i (Sum.elim (fun z=>K (.inl (z.1,u1,(u1.length:Int),z.2,u4,u5,u6,u7,u8))) (fun z=>K (.inr (u0,u1,(u1.length:Int),z,u4,u5,u6,u7,u8)))):=by
 intro l
 induction l with
 |nil=>
  intro i  n hd hn
  have hge:=vbh hd
  cases n with
  |zero=>exact absurd hn (Nat.not_lt_zero _)
  |succ n=>simp only [vae,voy,vp6,hge,decide_false,cond_false,Sum.elim_inr,Sum.elim_inl]
 |cons y l ih=>
  intro i  n hd hn
  obtain⟨hlt,hz,hd2,hw,hnn⟩:=va7 hd h0
  have hy:=va1 hd
  cases n with
  |zero=>exact absurd hn (Nat.not_lt_zero _)
  |succ n=>
   have ih2:=ih (i+1)  n hd2 (Nat.lt_of_succ_lt_succ hn)
   simp only [vae,voy,vp6,hlt,hz,decide_true,cond_true,and_self,if_true,hy,hw,hnn,Sum.elim_inl,Sum.elim_inr,ih2]
theorem wsx {u0} {u1} {u4} {u5} {u6} {u7} {u8}(h0:u1.length<9223372036854775807){K:(q24T⊕q24T)→Option Res}  : vae voy Fuel (u0,u1,(u1.length:Int),(0:Int),u4,u5,u6,u7,u8) K=vp6 u0 u1 u4 u5 u6 u7 u8 u1  0 (Sum.elim (fun z=>K (.inl (z.1,u1,(u1.length:Int),z.2,u4,u5,u6,u7,u8))) (fun z=>K (.inr (u0,u1,(u1.length:Int),z,u4,u5,u6,u7,u8)))):=
 wut h0 u1 0  Fuel rfl (va9 h0)
def vnf (u0:Bool)(u1:(List dTxn))(u4:(List vaa))(u5:(List dTxn))(u6:(List dTxn))(u7:Int)(u8:Int):List dTxn→Nat→(((Bool×Int)⊕Int)→Option Res)→Option Res
 |[],i,k=>
  k (.inr (i:Int))
 |y::l,i,k=>
  vhg y (fun y1=>
   bif (!y1)then
    k (.inl (false,(i:Int)))
   else
    vvi y (fun y2=>
     bif (!y2)then
      k (.inl (false,(i:Int)))
     else
      bif (decide (y.2.2.2.1>u7))then
       k (.inl (false,(i:Int)))
      else
       bif (decide ((i:Int)>(0:Int)))then
        if 0≤(IntKind.wrap .i64 ((i:Int)-(1:Int)))∧(IntKind.wrap .i64 ((i:Int)-(1:Int)))<(u5.length:Int)then
         bif (decide ((rd (Ty.zero tTxn) u5 (IntKind.wrap .i64 ((i:Int)-(1:Int)))).2.2.2.1≥y.2.2.2.1))then
          k (.inl (false,(i:Int)))
         else
          vnf u0 u1 u4 u5 u6 u7 u8 l (i+1) k
        else none
       else
        vnf u0 u1 u4 u5 u6 u7 u8 l (i+1) k))
theorem ws4 {u0} {u1} {u4} {u5} {u6} {u7} {u8}(h0:u1.length<9223372036854775807){K:(q22T⊕q22T)→Option Res}:∀(l:List dTxn)(i:Nat)  (n:Nat),u1.drop i=l→l.length<n→vae vps n (u0,u1,(u1.length:Int),(i:Int),u4,u5,u6,u7,u8) K=vnf u0 u1 u4 u5 u6 u7 u8 l  i (Sum.elim (fun z=>K (.inl (z.1,u1,(u1.length:Int),z.2,u4,u5,u6,u7,u8))) (fun z=>K (.inr (u0,u1,(u1.length:Int),z,u4,u5,u6,u7,u8)))):=by
 intro l
 induction l with
 |nil=>
  intro i  n hd hn
  have hge:=vbh hd
  cases n with
  |zero=>exact absurd hn (Nat.not_lt_zero _)
  |succ n=>simp only [vae,vps,vnf,hge,decide_false,cond_false,Sum.elim_inr,Sum.elim_inl]
 |cons y l ih=>
  intro i  n hd hn
  obtain⟨hlt,hz,hd2,hw,hnn⟩:=va7 hd h0
  have hy:=va1 hd
  cases n with
  |zero=>exact absurd hn (Nat.not_lt_zero _)
  |succ n=>
   have ih2:=ih (i+1)  n hd2 (Nat.lt_of_succ_lt_succ hn)
   simp only [vae,vps,vnf,hlt,hz,decide_true,cond_true,and_self,if_true,hy,hw,hnn,Sum.elim_inl,Sum.elim_inr,ih2]
theorem wr8 {u0} {u1} {u4} {u5} {u6} {u7} {u8}(h0:u1.length<9223372036854775807){K:(q22T⊕q22T)→Option Res}  : vae vps Fuel (u0,u1,(u1.length:Int),(0:Int),u4,u5,u6,u7,u8) K=vnf u0 u1 u4 u5 u6 u7 u8 u1  0 (Sum.elim (fun z=>K (.inl (z.1,u1,(u1.length:Int),z.2,u4,u5,u6,u7,u8))) (fun z=>K (.inr (u0,u1,(u1.length:Int),z,u4,u5,u6,u7,u8)))):=
 ws4 h0 u1 0  Fuel rfl (va9 h0)
def vnb (u0:Bool)(u1:(List dTxn))(u4:(List vaa))(u5:(List dTxn))(u6:(List dTxn))(u7:Int)(u8:Int):List dTxn→Nat→(((Bool×Int)⊕Int)→Option Res)→Option Res
 |[],i,k=>
  k (.inr (i:Int))
 |y::l,i,k=>
  vhg y (fun y1=>
   bif (!y1)then
    k (.inl (false,(i:Int)))
   else
    vvg y (fun y2=>
     bif (!y2)then
      k (.inl (false,(i:Int)))
     else
      bif (decide (y.2.2.1>u7))then
       k (.inl (false,(i:Int)))
      else
       bif (decide ((i:Int)>(0:Int)))then
        if 0≤(IntKind.wrap .i64 ((i:Int)-(1:Int)))∧(IntKind.wrap .i64 ((i:Int)-(1:Int)))<(u6.length:Int)then
         bif (!(va3 ((rd (Ty.zero tTxn) u6 (IntKind.wrap .i64 ((i:Int)-(1:Int)))).2.2.2.2.2.2.2) (y.2.2.2.2.2.2.2)))then
          k (.inl (false,(i:Int)))
         else
          vnb u0 u1 u4 u5 u6 u7 u8 l (i+1) k
        else none
       else
        vnb u0 u1 u4 u5 u6 u7 u8 l (i+1) k))
theorem wti {u0} {u1} {u4} {u5} {u6} {u7} {u8}(h0:u1.length<9223372036854775807){K:(q22T⊕q22T)→Option Res}:∀(l:List dTxn)(i:Nat)  (n:Nat),u1.drop i=l→l.length<n→vae vn2 n (u0,u1,(u1.length:Int),(i:Int),u4,u5,u6,u7,u8) K=vnb u0 u1 u4 u5 u6 u7 u8 l  i (Sum.elim (fun z=>K (.inl (z.1,u1,(u1.length:Int),z.2,u4,u5,u6,u7,u8))) (fun z=>K (.inr (u0,u1,(u1.length:Int),z,u4,u5,u6,u7,u8)))):=by
 intro l
 induction l with
 |nil=>
  intro i  n hd hn
  have hge:=vbh hd
  cases n with
  |zero=>exact absurd hn (Nat.not_lt_zero _)
  |succ n=>simp only [vae,vn2,vnb,hge,decide_false,cond_false,Sum.elim_inr,Sum.elim_inl]
 |cons y l ih=>
  intro i  n hd hn
  obtain⟨hlt,hz,hd2,hw,hnn⟩:=va7 hd h0
  have hy:=va1 hd
  cases n with
  |zero=>exact absurd hn (Nat.not_lt_zero _)
  |succ n=>
   have ih2:=ih (i+1)  n hd2 (Nat.lt_of_succ_lt_succ hn)
   simp only [vae,vn2,vnb,hlt,hz,decide_true,cond_true,and_self,if_true,hy,hw,hnn,Sum.elim_inl,Sum.elim_inr,ih2]
theorem wu0 {u0} {u1} {u4} {u5} {u6} {u7} {u8}(h0:u1.length<9223372036854775807){K:(q22T⊕q22T)→Option Res}  : vae vn2 Fuel (u0,u1,(u1.length:Int),(0:Int),u4,u5,u6,u7,u8) K=vnb u0 u1 u4 u5 u6 u7 u8 u1  0 (Sum.elim (fun z=>K (.inl (z.1,u1,(u1.length:Int),z.2,u4,u5,u6,u7,u8))) (fun z=>K (.inr (u0,u1,(u1.length:Int),z,u4,u5,u6,u7,u8)))):=
 wti h0 u1 0  Fuel rfl (va9 h0)
def vgr (u0:Bool)(u1:(List vaa))(u2:(List dTxn))(u3:(List dTxn))(u4:Int)(u5:Int)(k:Bool→Option Res):Option Res:=
  vp6 u0 u1 u1 u2 u3 u4 u5 u1  0 (Sum.elim (fun z1=>
   k z1.1) (fun _=>
   vnf u0 u2 u1 u2 u3 u4 u5 u2  0 (Sum.elim (fun z3=>
    k z3.1) (fun _=>
    vnb u0 u3 u1 u2 u3 u4 u5 u3  0 (Sum.elim (fun z5=>
     k z5.1) (fun _=>
     vvv [u2,u3] (Sum.elim (fun y7=>
      vt8 y7 u5 (fun y8=>
       k y8)) (fun y9=>
      vt8 y9 u5 (fun y10=>
       k y10)))))))))
theorem v1r {u0} {u1} {u2} {u3} {u4} {u5}(h0:u3.length<9223372036854775807)(h1:u2.length<9223372036854775807)(h2:u1.length<9223372036854775807){K:q23T→Option Res}:vd7 (u0,u1,u2,u3,u4,u5) K=vgr u0 u1 u2 u3 u4 u5 (fun z=>K (z,u1,u2,u3,u4,u5)):=by
 simp only [vd7,vgr,(wu0 h0),(wr8 h1),(wsx h2),Sum.elim_inl,Sum.elim_inr]
def wl2 (a0:vfd)(k:Bool→Option Res):Option Res:=
 vzv a0.1 (fun y24=>
  bif (!y24)then
   k false
  else
   bif (decide ((a0.2.1.length:Int)>(12:Int)))then
    k false
   else
    bif (decide ((a0.2.2.1.length:Int)>(3:Int)))then
     k false
    else
     vdl a0.2.2.2.1 (0:Int) (9999:Int) (fun y25=>
      bif (!y25)then
       k false
      else
       vdl a0.2.2.2.2 (1:Int) (9999:Int) (fun y26=>
        bif (!y26)then
         k false
        else
         vgr false a0.1 a0.2.1 a0.2.2.1 a0.2.2.2.1 a0.2.2.2.2 (fun z27=>
          k z27))))
theorem w1f {a0:vfd}(h0:a0.2.2.1.length<9223372036854775807)(h1:a0.2.1.length<9223372036854775807)(h2:a0.1.length<9223372036854775807){k:Bool→Option Res}:vrk a0 k=wl2 a0 k:=by
 rw [wln]
 simp only [wgy,wl2,(v1r h0 h1 h2),Sum.elim_inl,Sum.elim_inr]
def vca (u0:Bool)(u1:Bool)(u2:Bool)(u3:Bool)(u4:Int)(u5:Int)(u6:Int)(u7:Int)(u8:Int)(u9:(List vai))(u10:(List vag))(u11:Bool)(u12:ByteArray)(u13:ByteArray)(u14:Bool)(u15:(List vaa))(u16:(List dTxn))(u17:(List dTxn))(u18:Int)(u19:Int)(k:Bool→Option Res):Option Res:=
  bif u1 then
   bif u2 then
    bif u3 then
     bif (!u14)then
      k true
     else
      k (u4==(3:Int))
    else
     k false
   else
    k false
  else
   k false
theorem v1y {u0} {u1} {u2} {u3} {u4} {u5} {u6} {u7} {u8} {u9} {u10} {u11} {u12} {u13} {u14} {u15} {u16} {u17} {u18} {u19}  {K:q25T→Option Res}:vby (u0,u1,u2,u3,u4,u5,u6,u7,u8,u9,u10,u11,u12,u13,u14,u15,u16,u17,u18,u19) K=vca u0 u1 u2 u3 u4 u5 u6 u7 u8 u9 u10 u11 u12 u13 u14 u15 u16 u17 u18 u19 (fun z=>K (z,u1,u2,u3,u4,u5,u6,u7,u8,u9,u10,u11,u12,u13,u14,u15,u16,u17,u18,u19)):=by
 simp only [vby,vca,Sum.elim_inl,Sum.elim_inr]
def wox (a0:vcd)(k:Bool→Option Res):Option Res:=
 v3y a0.2.1 (fun y24=>
  v3u a0.2.2.2.2 (fun y25=>
   bif (a0.1==(1:Int))then
    vhg a0.2.1 (fun y26=>
     bif y26 then
      vvi a0.2.1 (fun y27=>
       vca false y27 (vap a0.2.2.1 (⟨#[]⟩:ByteArray)) y25 a0.1 a0.2.1.1 a0.2.1.2.1 a0.2.1.2.2.1 a0.2.1.2.2.2.1 a0.2.1.2.2.2.2.1 a0.2.1.2.2.2.2.2.1 a0.2.1.2.2.2.2.2.2.1 a0.2.1.2.2.2.2.2.2.2 a0.2.2.1 a0.2.2.2.1 a0.2.2.2.2.1 a0.2.2.2.2.2.1 a0.2.2.2.2.2.2.1 a0.2.2.2.2.2.2.2.1 a0.2.2.2.2.2.2.2.2 (fun z28=>
        k z28))
     else
      vca false false (vap a0.2.2.1 (⟨#[]⟩:ByteArray)) y25 a0.1 a0.2.1.1 a0.2.1.2.1 a0.2.1.2.2.1 a0.2.1.2.2.2.1 a0.2.1.2.2.2.2.1 a0.2.1.2.2.2.2.2.1 a0.2.1.2.2.2.2.2.2.1 a0.2.1.2.2.2.2.2.2.2 a0.2.2.1 a0.2.2.2.1 a0.2.2.2.2.1 a0.2.2.2.2.2.1 a0.2.2.2.2.2.2.1 a0.2.2.2.2.2.2.2.1 a0.2.2.2.2.2.2.2.2 (fun z29=>
       k z29))
   else
    bif (a0.1==(2:Int))then
     vhg a0.2.1 (fun y30=>
      bif y30 then
       vvg a0.2.1 (fun y31=>
        vca false y31 (vap a0.2.2.1 (⟨#[]⟩:ByteArray)) y25 a0.1 a0.2.1.1 a0.2.1.2.1 a0.2.1.2.2.1 a0.2.1.2.2.2.1 a0.2.1.2.2.2.2.1 a0.2.1.2.2.2.2.2.1 a0.2.1.2.2.2.2.2.2.1 a0.2.1.2.2.2.2.2.2.2 a0.2.2.1 a0.2.2.2.1 a0.2.2.2.2.1 a0.2.2.2.2.2.1 a0.2.2.2.2.2.2.1 a0.2.2.2.2.2.2.2.1 a0.2.2.2.2.2.2.2.2 (fun z32=>
         k z32))
      else
       vca false false (vap a0.2.2.1 (⟨#[]⟩:ByteArray)) y25 a0.1 a0.2.1.1 a0.2.1.2.1 a0.2.1.2.2.1 a0.2.1.2.2.2.1 a0.2.1.2.2.2.2.1 a0.2.1.2.2.2.2.2.1 a0.2.1.2.2.2.2.2.2.1 a0.2.1.2.2.2.2.2.2.2 a0.2.2.1 a0.2.2.2.1 a0.2.2.2.2.1 a0.2.2.2.2.2.1 a0.2.2.2.2.2.2.1 a0.2.2.2.2.2.2.2.1 a0.2.2.2.2.2.2.2.2 (fun z33=>
        k z33))
    else
     bif (a0.1==(3:Int))then
      vjs a0.2.2.1 (fun y34=>
       vca false y24 y34 y25 a0.1 a0.2.1.1 a0.2.1.2.1 a0.2.1.2.2.1 a0.2.1.2.2.2.1 a0.2.1.2.2.2.2.1 a0.2.1.2.2.2.2.2.1 a0.2.1.2.2.2.2.2.2.1 a0.2.1.2.2.2.2.2.2.2 a0.2.2.1 a0.2.2.2.1 a0.2.2.2.2.1 a0.2.2.2.2.2.1 a0.2.2.2.2.2.2.1 a0.2.2.2.2.2.2.2.1 a0.2.2.2.2.2.2.2.2 (fun z35=>
        k z35))
     else
      bif (a0.1==(4:Int))then
       vrk a0.2.2.2.2 (fun y36=>
        vca false y24 (vap a0.2.2.1 (⟨#[]⟩:ByteArray)) y36 a0.1 a0.2.1.1 a0.2.1.2.1 a0.2.1.2.2.1 a0.2.1.2.2.2.1 a0.2.1.2.2.2.2.1 a0.2.1.2.2.2.2.2.1 a0.2.1.2.2.2.2.2.2.1 a0.2.1.2.2.2.2.2.2.2 a0.2.2.1 a0.2.2.2.1 a0.2.2.2.2.1 a0.2.2.2.2.2.1 a0.2.2.2.2.2.2.1 a0.2.2.2.2.2.2.2.1 a0.2.2.2.2.2.2.2.2 (fun z37=>
         k z37))
      else
       k false))
theorem w2o {a0:vcd}  {k:Bool→Option Res}:v21 a0 k=wox a0 k:=by
 rw [wqy]
 simp only [wf2,wox,v1y,Sum.elim_inl,Sum.elim_inr]
def vn8 (u0:(List Int)):List Int→(List Int)→Nat→((Int×(List Int))→Option Res)→Option Res
 |[],s3,i,k=>
  k ((i:Int),s3)
 |y::l,s3,i,k=>
  vpi y (fun y1=>
   if s3.length+(vah y1.1).length≤VE.maxLen then
    vn8 u0 l (s3++(vah y1.1)) (i+1) k
   else none)
theorem wsi {u0}(h0:u0.length<9223372036854775807){K:q3T→Option Res}:∀(l:List Int)(i:Nat)(s3:(List Int))(n:Nat),u0.drop i=l→l.length<n→vae vpl n (u0,(u0.length:Int),(i:Int),s3) K=vn8 u0 l s3 i (fun z=>K (u0,(u0.length:Int),z.1,z.2)):=by
 intro l
 induction l with
 |nil=>
  intro i s3 n hd hn
  have hge:=vbh hd
  cases n with
  |zero=>exact absurd hn (Nat.not_lt_zero _)
  |succ n=>simp only [vae,vpl,vn8,hge,decide_false,cond_false,Sum.elim_inr,Sum.elim_inl]
 |cons y l ih=>
  intro i s3 n hd hn
  obtain⟨hlt,hz,hd2,hw,hnn⟩:=va7 hd h0
  have hy:=va1 hd
  cases n with
  |zero=>exact absurd hn (Nat.not_lt_zero _)
  |succ n=>
   have ih2:=fun(s3:(List Int))=>ih (i+1) s3 n hd2 (Nat.lt_of_succ_lt_succ hn)
   simp only [vae,vpl,vn8,hlt,hz,decide_true,cond_true,and_self,if_true,hy,hw,hnn,Sum.elim_inl,Sum.elim_inr,ih2]
theorem wr7 {u0}(h0:u0.length<9223372036854775807){K:q3T→Option Res}{s3:(List Int)}:vae vpl Fuel (u0,(u0.length:Int),(0:Int),s3) K=vn8 u0 u0 s3 0 (fun z=>K (u0,(u0.length:Int),z.1,z.2)):=
 wsi h0 u0 0 s3 Fuel rfl (va9 h0)
def wou (a0:(List Int))(k:(List Int)→Option Res):Option Res:=
 vn8 a0 a0 ([]:List Int) 0 (fun z24=>
  k z24.2)
theorem w16 {a0:(List Int)}(h0:a0.length<9223372036854775807){k:(List Int)→Option Res}:vs7 a0 k=wou a0 k:=by
 rw [wmd]
 simp only [wf3,wou,(wr7 h0),Sum.elim_inl,Sum.elim_inr]
def vm0 (u0:(List vai))(u3:Int)(u4:Int)(u5:Int)(u6:Int)(u7:(List vai))(u8:(List vag))(u9:Bool)(u10:ByteArray):List vai→(List Int)→Nat→((Int×(List Int))→Option Res)→Option Res
 |[],s11,i,k=>
  k ((i:Int),s11)
 |y::l,s11,i,k=>
  vhc [y.1,y.2] s11 (Sum.elim (fun y1=>
   vm0 u0 u3 u4 u5 u6 u7 u8 u9 u10 l y1 (i+1) k) (fun y2=>
   vm0 u0 u3 u4 u5 u6 u7 u8 u9 u10 l y2 (i+1) k))
theorem wtk {u0} {u3} {u4} {u5} {u6} {u7} {u8} {u9} {u10}(h0:u0.length<9223372036854775807){K:q5T→Option Res}:∀(l:List vai)(i:Nat)(s11:(List Int))(n:Nat),u0.drop i=l→l.length<n→vae vp5 n (u0,(u0.length:Int),(i:Int),u3,u4,u5,u6,u7,u8,u9,u10,s11) K=vm0 u0 u3 u4 u5 u6 u7 u8 u9 u10 l s11 i (fun z=>K (u0,(u0.length:Int),z.1,u3,u4,u5,u6,u7,u8,u9,u10,z.2)):=by
 intro l
 induction l with
 |nil=>
  intro i s11 n hd hn
  have hge:=vbh hd
  cases n with
  |zero=>exact absurd hn (Nat.not_lt_zero _)
  |succ n=>simp only [vae,vp5,vm0,hge,decide_false,cond_false,Sum.elim_inr,Sum.elim_inl]
 |cons y l ih=>
  intro i s11 n hd hn
  obtain⟨hlt,hz,hd2,hw,hnn⟩:=va7 hd h0
  have hy:=va1 hd
  cases n with
  |zero=>exact absurd hn (Nat.not_lt_zero _)
  |succ n=>
   have ih2:=fun(s11:(List Int))=>ih (i+1) s11 n hd2 (Nat.lt_of_succ_lt_succ hn)
   simp only [vae,vp5,vm0,hlt,hz,decide_true,cond_true,and_self,if_true,hy,hw,hnn,Sum.elim_inl,Sum.elim_inr,ih2]
theorem wvr {u0} {u3} {u4} {u5} {u6} {u7} {u8} {u9} {u10}(h0:u0.length<9223372036854775807){K:q5T→Option Res}{s11:(List Int)}:vae vp5 Fuel (u0,(u0.length:Int),(0:Int),u3,u4,u5,u6,u7,u8,u9,u10,s11) K=vm0 u0 u3 u4 u5 u6 u7 u8 u9 u10 u0 s11 0 (fun z=>K (u0,(u0.length:Int),z.1,u3,u4,u5,u6,u7,u8,u9,u10,z.2)):=
 wtk h0 u0 0 s11 Fuel rfl (va9 h0)
def vkq (u0:(List vag))(u3:Int)(u4:Int)(u5:Int)(u6:Int)(u7:(List vai))(u8:(List vag))(u9:Bool)(u10:ByteArray):List vag→(List Int)→Nat→((Int×(List Int))→Option Res)→Option Res
 |[],s11,i,k=>
  k ((i:Int),s11)
 |y::l,s11,i,k=>
  vhc [y.1,y.2.1] s11 (Sum.elim (fun y1=>
   vgd y.2.2 y1 (fun y2=>
    vkq u0 u3 u4 u5 u6 u7 u8 u9 u10 l y2 (i+1) k)) (fun y3=>
   vgd y.2.2 y3 (fun y4=>
    vkq u0 u3 u4 u5 u6 u7 u8 u9 u10 l y4 (i+1) k)))
theorem wu4 {u0} {u3} {u4} {u5} {u6} {u7} {u8} {u9} {u10}(h0:u0.length<9223372036854775807){K:q19T→Option Res}:∀(l:List vag)(i:Nat)(s11:(List Int))(n:Nat),u0.drop i=l→l.length<n→vae vna n (u0,(u0.length:Int),(i:Int),u3,u4,u5,u6,u7,u8,u9,u10,s11) K=vkq u0 u3 u4 u5 u6 u7 u8 u9 u10 l s11 i (fun z=>K (u0,(u0.length:Int),z.1,u3,u4,u5,u6,u7,u8,u9,u10,z.2)):=by
 intro l
 induction l with
 |nil=>
  intro i s11 n hd hn
  have hge:=vbh hd
  cases n with
  |zero=>exact absurd hn (Nat.not_lt_zero _)
  |succ n=>simp only [vae,vna,vkq,hge,decide_false,cond_false,Sum.elim_inr,Sum.elim_inl]
 |cons y l ih=>
  intro i s11 n hd hn
  obtain⟨hlt,hz,hd2,hw,hnn⟩:=va7 hd h0
  have hy:=va1 hd
  cases n with
  |zero=>exact absurd hn (Nat.not_lt_zero _)
  |succ n=>
   have ih2:=fun(s11:(List Int))=>ih (i+1) s11 n hd2 (Nat.lt_of_succ_lt_succ hn)
   simp only [vae,vna,vkq,hlt,hz,decide_true,cond_true,and_self,if_true,hy,hw,hnn,Sum.elim_inl,Sum.elim_inr,ih2]
theorem wun {u0} {u3} {u4} {u5} {u6} {u7} {u8} {u9} {u10}(h0:u0.length<9223372036854775807){K:q19T→Option Res}{s11:(List Int)}:vae vna Fuel (u0,(u0.length:Int),(0:Int),u3,u4,u5,u6,u7,u8,u9,u10,s11) K=vkq u0 u3 u4 u5 u6 u7 u8 u9 u10 u0 s11 0 (fun z=>K (u0,(u0.length:Int),z.1,u3,u4,u5,u6,u7,u8,u9,u10,z.2)):=
 wu4 h0 u0 0 s11 Fuel rfl (va9 h0)
def wpg (a0:dTxn)(k:(ByteArray×Bool)→Option Res):Option Res:=
 vhg a0 (fun y24=>
  bif (!y24)then
   k ((⟨#[]⟩:ByteArray),false)
  else
   vs7 [a0.1,a0.2.1,a0.2.2.1,a0.2.2.2.1,(a0.2.2.2.2.1.length:Int)] (fun y25=>
    vm0 a0.2.2.2.2.1 a0.1 a0.2.1 a0.2.2.1 a0.2.2.2.1 a0.2.2.2.2.1 a0.2.2.2.2.2.1 a0.2.2.2.2.2.2.1 a0.2.2.2.2.2.2.2 a0.2.2.2.2.1 y25 0 (fun z26=>
     vn5 [(a0.2.2.2.2.2.1.length:Int)] z26.2 (Sum.elim (fun y27=>
      vkq a0.2.2.2.2.2.1 a0.1 a0.2.1 a0.2.2.1 a0.2.2.2.1 a0.2.2.2.2.1 a0.2.2.2.2.2.1 a0.2.2.2.2.2.2.1 a0.2.2.2.2.2.2.2 a0.2.2.2.2.2.1 y27 0 (fun z28=>
       vgd a0.2.2.2.2.2.2.1 z28.2 (fun y29=>
        vhc [a0.2.2.2.2.2.2.2] y29 (Sum.elim (fun y30=>
         k ((van y30),true)) (fun y31=>
         k ((van y31),true)))))) (fun y32=>
      vkq a0.2.2.2.2.2.1 a0.1 a0.2.1 a0.2.2.1 a0.2.2.2.1 a0.2.2.2.2.1 a0.2.2.2.2.2.1 a0.2.2.2.2.2.2.1 a0.2.2.2.2.2.2.2 a0.2.2.2.2.2.1 y32 0 (fun z33=>
       vgd a0.2.2.2.2.2.2.1 z33.2 (fun y34=>
        vhc [a0.2.2.2.2.2.2.2] y34 (Sum.elim (fun y35=>
         k ((van y35),true)) (fun y36=>
         k ((van y36),true))))))))))
theorem w36 {a0:dTxn}(h0:a0.2.2.2.2.2.1.length<9223372036854775807)(h1:a0.2.2.2.2.1.length<9223372036854775807){k:(ByteArray×Bool)→Option Res}:vw0 a0 k=wpg a0 k:=by
 rw [wrb]
 simp only [wgh,wpg,(wun h0),(wvr h1),Sum.elim_inl,Sum.elim_inr]
def vij (u0:(List vaa))(u3:(List vaa))(u4:(List dTxn))(u5:(List dTxn))(u6:Int)(u7:Int):List vaa→(List Int)→Nat→((Int×(List Int))→Option Res)→Option Res
 |[],s8,i,k=>
  k ((i:Int),s8)
 |y::l,s8,i,k=>
  vhc [y.1,y.2.1] s8 (Sum.elim (fun y1=>
   vgd y.2.2.1 y1 (fun y2=>
    vn5 [y.2.2.2] y2 (Sum.elim (fun y3=>
     vij u0 u3 u4 u5 u6 u7 l y3 (i+1) k) (fun y4=>
     vij u0 u3 u4 u5 u6 u7 l y4 (i+1) k)))) (fun y5=>
   vgd y.2.2.1 y5 (fun y6=>
    vn5 [y.2.2.2] y6 (Sum.elim (fun y7=>
     vij u0 u3 u4 u5 u6 u7 l y7 (i+1) k) (fun y8=>
     vij u0 u3 u4 u5 u6 u7 l y8 (i+1) k)))))
theorem wua {u0} {u3} {u4} {u5} {u6} {u7}(h0:u0.length<9223372036854775807){K:q15T→Option Res}:∀(l:List vaa)(i:Nat)(s8:(List Int))(n:Nat),u0.drop i=l→l.length<n→vae voq n (u0,(u0.length:Int),(i:Int),u3,u4,u5,u6,u7,s8) K=vij u0 u3 u4 u5 u6 u7 l s8 i (fun z=>K (u0,(u0.length:Int),z.1,u3,u4,u5,u6,u7,z.2)):=by
 intro l
 induction l with
 |nil=>
  intro i s8 n hd hn
  have hge:=vbh hd
  cases n with
  |zero=>exact absurd hn (Nat.not_lt_zero _)
  |succ n=>simp only [vae,voq,vij,hge,decide_false,cond_false,Sum.elim_inr,Sum.elim_inl]
 |cons y l ih=>
  intro i s8 n hd hn
  obtain⟨hlt,hz,hd2,hw,hnn⟩:=va7 hd h0
  have hy:=va1 hd
  cases n with
  |zero=>exact absurd hn (Nat.not_lt_zero _)
  |succ n=>
   have ih2:=fun(s8:(List Int))=>ih (i+1) s8 n hd2 (Nat.lt_of_succ_lt_succ hn)
   simp only [vae,voq,vij,hlt,hz,decide_true,cond_true,and_self,if_true,hy,hw,hnn,Sum.elim_inl,Sum.elim_inr,ih2]
theorem wsb {u0} {u3} {u4} {u5} {u6} {u7}(h0:u0.length<9223372036854775807){K:q15T→Option Res}{s8:(List Int)}:vae voq Fuel (u0,(u0.length:Int),(0:Int),u3,u4,u5,u6,u7,s8) K=vij u0 u3 u4 u5 u6 u7 u0 s8 0 (fun z=>K (u0,(u0.length:Int),z.1,u3,u4,u5,u6,u7,z.2)):=
 wua h0 u0 0 s8 Fuel rfl (va9 h0)
def wrs (a0:vfd)(k:(ByteArray×Bool)→Option Res):Option Res:=
 vrk a0 (fun y24=>
  bif (!y24)then
   k ((⟨#[]⟩:ByteArray),false)
  else
   vs7 [a0.2.2.2.1,a0.2.2.2.2,(a0.1.length:Int)] (fun y25=>
    vij a0.1 a0.1 a0.2.1 a0.2.2.1 a0.2.2.2.1 a0.2.2.2.2 a0.1 y25 0 (fun z26=>
     vae vke Fuel (([a0.2.1,a0.2.2.1].length:Int),(0:Int),[a0.2.1,a0.2.2.1],z26.2) (fun z27=>
      k ((van z27.2.2.2),true)))))
theorem w3o {a0:vfd}(h0:a0.1.length<9223372036854775807){k:(ByteArray×Bool)→Option Res}:v4m a0 k=wrs a0 k:=by
 rw [wrr]
 simp only [wfi,wrs,(wsb h0),Sum.elim_inl,Sum.elim_inr]
def vok (u0:(List vai))(u1:(List vai))(u2:Bool):List vai→Nat→(((Bool×Int)⊕Int)→Option Res)→Option Res
 |[],i,k=>
  k (.inr (i:Int))
 |y::l,i,k=>
  if 0≤(i:Int)∧(i:Int)<(u1.length:Int)then
   v4y y (rd (Ty.zero tRange) u1 (i:Int)) (fun y1=>
    bif (!y1)then
     k (.inl (false,(i:Int)))
    else
     vok u0 u1 u2 l (i+1) k)
  else none
theorem wuj {u0} {u1} {u2}(h0:u0.length<9223372036854775807){K:(q4T⊕q4T)→Option Res}:∀(l:List vai)(i:Nat)  (n:Nat),u0.drop i=l→l.length<n→vae vof n (u0,u1,u2,(i:Int)) K=vok u0 u1 u2 l  i (Sum.elim (fun z=>K (.inl (u0,u1,z.1,z.2))) (fun z=>K (.inr (u0,u1,u2,z)))):=by
 intro l
 induction l with
 |nil=>
  intro i  n hd hn
  have hge:=vbh hd
  cases n with
  |zero=>exact absurd hn (Nat.not_lt_zero _)
  |succ n=>simp only [vae,vof,vok,hge,decide_false,cond_false,Sum.elim_inr,Sum.elim_inl]
 |cons y l ih=>
  intro i  n hd hn
  obtain⟨hlt,hz,hd2,hw,hnn⟩:=va7 hd h0
  have hy:=va1 hd
  cases n with
  |zero=>exact absurd hn (Nat.not_lt_zero _)
  |succ n=>
   have ih2:=ih (i+1)  n hd2 (Nat.lt_of_succ_lt_succ hn)
   simp only [vae,vof,vok,hlt,hz,decide_true,cond_true,and_self,if_true,hy,hw,hnn,Sum.elim_inl,Sum.elim_inr,ih2]
theorem wur {u0} {u1} {u2}(h0:u0.length<9223372036854775807){K:(q4T⊕q4T)→Option Res}  : vae vof Fuel (u0,u1,u2,(0:Int)) K=vok u0 u1 u2 u0  0 (Sum.elim (fun z=>K (.inl (u0,u1,z.1,z.2))) (fun z=>K (.inr (u0,u1,u2,z)))):=
 wuj h0 u0 0  Fuel rfl (va9 h0)
def wov (a0:(List vai))(a1:(List vai))(k:Bool→Option Res):Option Res:=
 bif ((a0.length:Int) != (a1.length:Int))then
  k false
 else
  vok a0 a1 false a0  0 (Sum.elim (fun z24=>
   k z24.1) (fun _=>
   k true))
theorem w3z {a0:(List vai)}{a1:(List vai)}(h0:a0.length<9223372036854775807){k:Bool→Option Res}:v36 a0 a1 k=wov a0 a1 k:=by
 rw [wro]
 simp only [wiq,wov,(wur h0),Sum.elim_inl,Sum.elim_inr]
def vpe (u0:(List vag))(u1:(List vag))(u2:Bool):List vag→Nat→(((Bool×Int)⊕Int)→Option Res)→Option Res
 |[],i,k=>
  k (.inr (i:Int))
 |y::l,i,k=>
  if 0≤(i:Int)∧(i:Int)<(u1.length:Int)then
   v4b y (rd (Ty.zero tWrite) u1 (i:Int)) (fun y1=>
    bif (!y1)then
     k (.inl (false,(i:Int)))
    else
     vpe u0 u1 u2 l (i+1) k)
  else none
theorem wtw {u0} {u1} {u2}(h0:u0.length<9223372036854775807){K:(q17T⊕q17T)→Option Res}:∀(l:List vag)(i:Nat)  (n:Nat),u0.drop i=l→l.length<n→vae vnp n (u0,u1,u2,(i:Int)) K=vpe u0 u1 u2 l  i (Sum.elim (fun z=>K (.inl (u0,u1,z.1,z.2))) (fun z=>K (.inr (u0,u1,u2,z)))):=by
 intro l
 induction l with
 |nil=>
  intro i  n hd hn
  have hge:=vbh hd
  cases n with
  |zero=>exact absurd hn (Nat.not_lt_zero _)
  |succ n=>simp only [vae,vnp,vpe,hge,decide_false,cond_false,Sum.elim_inr,Sum.elim_inl]
 |cons y l ih=>
  intro i  n hd hn
  obtain⟨hlt,hz,hd2,hw,hnn⟩:=va7 hd h0
  have hy:=va1 hd
  cases n with
  |zero=>exact absurd hn (Nat.not_lt_zero _)
  |succ n=>
   have ih2:=ih (i+1)  n hd2 (Nat.lt_of_succ_lt_succ hn)
   simp only [vae,vnp,vpe,hlt,hz,decide_true,cond_true,and_self,if_true,hy,hw,hnn,Sum.elim_inl,Sum.elim_inr,ih2]
theorem wvp {u0} {u1} {u2}(h0:u0.length<9223372036854775807){K:(q17T⊕q17T)→Option Res}  : vae vnp Fuel (u0,u1,u2,(0:Int)) K=vpe u0 u1 u2 u0  0 (Sum.elim (fun z=>K (.inl (u0,u1,z.1,z.2))) (fun z=>K (.inr (u0,u1,u2,z)))):=
 wtw h0 u0 0  Fuel rfl (va9 h0)
def wp8 (a0:(List vag))(a1:(List vag))(k:Bool→Option Res):Option Res:=
 bif ((a0.length:Int) != (a1.length:Int))then
  k false
 else
  vpe a0 a1 false a0  0 (Sum.elim (fun z24=>
   k z24.1) (fun _=>
   k true))
theorem w2l {a0:(List vag)}{a1:(List vag)}(h0:a0.length<9223372036854775807){k:Bool→Option Res}:v24 a0 a1 k=wp8 a0 a1 k:=by
 rw [wqe]
 simp only [wgv,wp8,(wvp h0),Sum.elim_inl,Sum.elim_inr]
def voa (u0:(List vaa))(u1:(List vaa))(u2:Bool):List vaa→Nat→(((Bool×Int)⊕Int)→Option Res)→Option Res
 |[],i,k=>
  k (.inr (i:Int))
 |y::l,i,k=>
  if 0≤(i:Int)∧(i:Int)<(u1.length:Int)then
   v4z y (rd (Ty.zero tVersion) u1 (i:Int)) (fun y1=>
    bif (!y1)then
     k (.inl (false,(i:Int)))
    else
     voa u0 u1 u2 l (i+1) k)
  else none
theorem wt2 {u0} {u1} {u2}(h0:u0.length<9223372036854775807){K:(q12T⊕q12T)→Option Res}:∀(l:List vaa)(i:Nat)  (n:Nat),u0.drop i=l→l.length<n→vae vo9 n (u0,u1,u2,(i:Int)) K=voa u0 u1 u2 l  i (Sum.elim (fun z=>K (.inl (u0,u1,z.1,z.2))) (fun z=>K (.inr (u0,u1,u2,z)))):=by
 intro l
 induction l with
 |nil=>
  intro i  n hd hn
  have hge:=vbh hd
  cases n with
  |zero=>exact absurd hn (Nat.not_lt_zero _)
  |succ n=>simp only [vae,vo9,voa,hge,decide_false,cond_false,Sum.elim_inr,Sum.elim_inl]
 |cons y l ih=>
  intro i  n hd hn
  obtain⟨hlt,hz,hd2,hw,hnn⟩:=va7 hd h0
  have hy:=va1 hd
  cases n with
  |zero=>exact absurd hn (Nat.not_lt_zero _)
  |succ n=>
   have ih2:=ih (i+1)  n hd2 (Nat.lt_of_succ_lt_succ hn)
   simp only [vae,vo9,voa,hlt,hz,decide_true,cond_true,and_self,if_true,hy,hw,hnn,Sum.elim_inl,Sum.elim_inr,ih2]
theorem wsy {u0} {u1} {u2}(h0:u0.length<9223372036854775807){K:(q12T⊕q12T)→Option Res}  : vae vo9 Fuel (u0,u1,u2,(0:Int)) K=voa u0 u1 u2 u0  0 (Sum.elim (fun z=>K (.inl (u0,u1,z.1,z.2))) (fun z=>K (.inr (u0,u1,u2,z)))):=
 wt2 h0 u0 0  Fuel rfl (va9 h0)
def wl5 (a0:(List vaa))(a1:(List vaa))(k:Bool→Option Res):Option Res:=
 bif ((a0.length:Int) != (a1.length:Int))then
  k false
 else
  voa a0 a1 false a0  0 (Sum.elim (fun z24=>
   k z24.1) (fun _=>
   k true))
theorem w29 {a0:(List vaa)}{a1:(List vaa)}(h0:a0.length<9223372036854775807){k:Bool→Option Res}:v3n a0 a1 k=wl5 a0 a1 k:=by
 rw [wlv]
 simp only [whd,wl5,(wsy h0),Sum.elim_inl,Sum.elim_inr]
def vph (u0:(List dTxn))(u1:(List dTxn))(u2:Bool):List dTxn→Nat→(((Bool×Int)⊕Int)→Option Res)→Option Res
 |[],i,k=>
  k (.inr (i:Int))
 |y::l,i,k=>
  if 0≤(i:Int)∧(i:Int)<(u1.length:Int)then
   vv6 y (rd (Ty.zero tTxn) u1 (i:Int)) (fun y1=>
    bif (!y1)then
     k (.inl (false,(i:Int)))
    else
     vph u0 u1 u2 l (i+1) k)
  else none
theorem wue {u0} {u1} {u2}(h0:u0.length<9223372036854775807){K:(q7T⊕q7T)→Option Res}:∀(l:List dTxn)(i:Nat)  (n:Nat),u0.drop i=l→l.length<n→vae voi n (u0,u1,u2,(i:Int)) K=vph u0 u1 u2 l  i (Sum.elim (fun z=>K (.inl (u0,u1,z.1,z.2))) (fun z=>K (.inr (u0,u1,u2,z)))):=by
 intro l
 induction l with
 |nil=>
  intro i  n hd hn
  have hge:=vbh hd
  cases n with
  |zero=>exact absurd hn (Nat.not_lt_zero _)
  |succ n=>simp only [vae,voi,vph,hge,decide_false,cond_false,Sum.elim_inr,Sum.elim_inl]
 |cons y l ih=>
  intro i  n hd hn
  obtain⟨hlt,hz,hd2,hw,hnn⟩:=va7 hd h0
  have hy:=va1 hd
  cases n with
  |zero=>exact absurd hn (Nat.not_lt_zero _)
  |succ n=>
   have ih2:=ih (i+1)  n hd2 (Nat.lt_of_succ_lt_succ hn)
   simp only [vae,voi,vph,hlt,hz,decide_true,cond_true,and_self,if_true,hy,hw,hnn,Sum.elim_inl,Sum.elim_inr,ih2]
theorem wss {u0} {u1} {u2}(h0:u0.length<9223372036854775807){K:(q7T⊕q7T)→Option Res}  : vae voi Fuel (u0,u1,u2,(0:Int)) K=vph u0 u1 u2 u0  0 (Sum.elim (fun z=>K (.inl (u0,u1,z.1,z.2))) (fun z=>K (.inr (u0,u1,u2,z)))):=
 wue h0 u0 0  Fuel rfl (va9 h0)
def wri (a0:(List dTxn))(a1:(List dTxn))(k:Bool→Option Res):Option Res:=
 bif ((a0.length:Int) != (a1.length:Int))then
  k false
 else
  vph a0 a1 false a0  0 (Sum.elim (fun z24=>
   k z24.1) (fun _=>
   k true))
theorem w3e {a0:(List dTxn)}{a1:(List dTxn)}(h0:a0.length<9223372036854775807){k:Bool→Option Res}:v0e a0 a1 k=wri a0 a1 k:=by
 rw [wpo]
 simp only [wge,wri,(wss h0),Sum.elim_inl,Sum.elim_inr]
def vm2 (u0:(List vai))(u2:Int):List vai→Int→Nat→(((Int×Int×Int)⊕(Int×Int))→Option Res)→Option Res
 |[],s1,i,k=>
  k (.inr (s1,(i:Int)))
 |y::l,s1,i,k=>
  vc8 s1 (fun y1=>
   bif (!(vap (y.1) y1))then
    k (.inl (s1,(-1:Int),(i:Int)))
   else
    vc8 (IntKind.wrap .i64 (s1+(1:Int))) (fun y2=>
     bif (!(vap (y.2) y2))then
      k (.inl ((IntKind.wrap .i64 (s1+(1:Int))),(-1:Int),(i:Int)))
     else
      vm2 u0 u2 l (IntKind.wrap .i64 ((IntKind.wrap .i64 (s1+(1:Int)))+(1:Int))) (i+1) k))
theorem wvz {u0} {u2}(h0:u0.length<9223372036854775807){K:(q6T⊕q6T)→Option Res}:∀(l:List vai)(i:Nat)(s1:Int)(n:Nat),u0.drop i=l→l.length<n→vae vpk n (u0,s1,u2,(i:Int)) K=vm2 u0 u2 l s1 i (Sum.elim (fun z=>K (.inl (u0,z.1,z.2.1,z.2.2))) (fun z=>K (.inr (u0,z.1,u2,z.2)))):=by
 intro l
 induction l with
 |nil=>
  intro i s1 n hd hn
  have hge:=vbh hd
  cases n with
  |zero=>exact absurd hn (Nat.not_lt_zero _)
  |succ n=>simp only [vae,vpk,vm2,hge,decide_false,cond_false,Sum.elim_inr,Sum.elim_inl]
 |cons y l ih=>
  intro i s1 n hd hn
  obtain⟨hlt,hz,hd2,hw,hnn⟩:=va7 hd h0
  have hy:=va1 hd
  cases n with
  |zero=>exact absurd hn (Nat.not_lt_zero _)
  |succ n=>
   have ih2:=fun(s1:Int)=>ih (i+1) s1 n hd2 (Nat.lt_of_succ_lt_succ hn)
   simp only [vae,vpk,vm2,hlt,hz,decide_true,cond_true,and_self,if_true,hy,hw,hnn,Sum.elim_inl,Sum.elim_inr,ih2]
theorem wsf {u0} {u2}(h0:u0.length<9223372036854775807){K:(q6T⊕q6T)→Option Res}{s1:Int}:vae vpk Fuel (u0,s1,u2,(0:Int)) K=vm2 u0 u2 u0 s1 0 (Sum.elim (fun z=>K (.inl (u0,z.1,z.2.1,z.2.2))) (fun z=>K (.inr (u0,z.1,u2,z.2)))):=
 wvz h0 u0 0 s1 Fuel rfl (va9 h0)
def wfd (a0:(List vai))(a1:Int)(k:Int→Option Res):Option Res:=
 vm2 a0 (0:Int) a0 a1 0 (Sum.elim (fun z24=>
  k z24.2.1) (fun z25=>
  k z25.1))
theorem wwx {a0:(List vai)}{a1:Int}(h0:a0.length<9223372036854775807){k:Int→Option Res}:vt4 a0 a1 k=wfd a0 a1 k:=by
 rw [wpy]
 simp only [wgs,wfd,(wsf h0),Sum.elim_inl,Sum.elim_inr]
def vmz (u0:(List vag))(u2:Int):List vag→Int→Nat→(((Int×Int×Int)⊕(Int×Int))→Option Res)→Option Res
 |[],s1,i,k=>
  k (.inr (s1,(i:Int)))
 |y::l,s1,i,k=>
  vc8 s1 (fun y1=>
   bif (!(vap (y.1) y1))then
    k (.inl (s1,(-1:Int),(i:Int)))
   else
    vc8 (IntKind.wrap .i64 (s1+(1:Int))) (fun y2=>
     bif (!(vap (y.2.1) y2))then
      k (.inl ((IntKind.wrap .i64 (s1+(1:Int))),(-1:Int),(i:Int)))
     else
      bif (!(y.2.2==(((IntKind.wrap .i64 ((IntKind.wrap .i64 (s1+(1:Int)))+(1:Int))).tmod (3:Int))==(0:Int))))then
       k (.inl ((IntKind.wrap .i64 ((IntKind.wrap .i64 (s1+(1:Int)))+(1:Int))),(-1:Int),(i:Int)))
      else
       vmz u0 u2 l (IntKind.wrap .i64 ((IntKind.wrap .i64 ((IntKind.wrap .i64 (s1+(1:Int)))+(1:Int)))+(1:Int))) (i+1) k))
theorem wto {u0} {u2}(h0:u0.length<9223372036854775807){K:(q20T⊕q20T)→Option Res}:∀(l:List vag)(i:Nat)(s1:Int)(n:Nat),u0.drop i=l→l.length<n→vae voc n (u0,s1,u2,(i:Int)) K=vmz u0 u2 l s1 i (Sum.elim (fun z=>K (.inl (u0,z.1,z.2.1,z.2.2))) (fun z=>K (.inr (u0,z.1,u2,z.2)))):=by
 intro l
 induction l with
 |nil=>
  intro i s1 n hd hn
  have hge:=vbh hd
  cases n with
  |zero=>exact absurd hn (Nat.not_lt_zero _)
  |succ n=>simp only [vae,voc,vmz,hge,decide_false,cond_false,Sum.elim_inr,Sum.elim_inl]
 |cons y l ih=>
  intro i s1 n hd hn
  obtain⟨hlt,hz,hd2,hw,hnn⟩:=va7 hd h0
  have hy:=va1 hd
  cases n with
  |zero=>exact absurd hn (Nat.not_lt_zero _)
  |succ n=>
   have ih2:=fun(s1:Int)=>ih (i+1) s1 n hd2 (Nat.lt_of_succ_lt_succ hn)
   simp only [vae,voc,vmz,hlt,hz,decide_true,cond_true,and_self,if_true,hy,hw,hnn,Sum.elim_inl,Sum.elim_inr,ih2]
theorem wvv {u0} {u2}(h0:u0.length<9223372036854775807){K:(q20T⊕q20T)→Option Res}{s1:Int}:vae voc Fuel (u0,s1,u2,(0:Int)) K=vmz u0 u2 u0 s1 0 (Sum.elim (fun z=>K (.inl (u0,z.1,z.2.1,z.2.2))) (fun z=>K (.inr (u0,z.1,u2,z.2)))):=
 wto h0 u0 0 s1 Fuel rfl (va9 h0)
def wg7 (a0:(List vag))(a1:Int)(k:Int→Option Res):Option Res:=
 vmz a0 (0:Int) a0 a1 0 (Sum.elim (fun z24=>
  k z24.2.1) (fun z25=>
  k z25.1))
theorem wwg {a0:(List vag)}{a1:Int}(h0:a0.length<9223372036854775807){k:Int→Option Res}:vtj a0 a1 k=wg7 a0 a1 k:=by
 rw [wmc]
 simp only [wf8,wg7,(wvv h0),Sum.elim_inl,Sum.elim_inr]
def vmu (u0:(List vaa))(u2:Int):List vaa→Int→Nat→(((Int×Int×Int)⊕(Int×Int))→Option Res)→Option Res
 |[],s1,i,k=>
  k (.inr (s1,(i:Int)))
 |y::l,s1,i,k=>
  vc8 s1 (fun y1=>
   bif (!(vap (y.1) y1))then
    k (.inl (s1,(-1:Int),(i:Int)))
   else
    vc8 (IntKind.wrap .i64 (s1+(1:Int))) (fun y2=>
     bif (!(vap (y.2.1) y2))then
      k (.inl ((IntKind.wrap .i64 (s1+(1:Int))),(-1:Int),(i:Int)))
     else
      bif (!(y.2.2.1==(((IntKind.wrap .i64 ((IntKind.wrap .i64 (s1+(1:Int)))+(1:Int))).tmod (3:Int))==(0:Int))))then
       k (.inl ((IntKind.wrap .i64 ((IntKind.wrap .i64 (s1+(1:Int)))+(1:Int))),(-1:Int),(i:Int)))
      else
       bif (y.2.2.2 != (IntKind.wrap .i64 ((IntKind.wrap .i64 ((IntKind.wrap .i64 (s1+(1:Int)))+(1:Int)))+(1:Int))))then
        k (.inl ((IntKind.wrap .i64 ((IntKind.wrap .i64 ((IntKind.wrap .i64 (s1+(1:Int)))+(1:Int)))+(1:Int))),(-1:Int),(i:Int)))
       else
        vmu u0 u2 l (IntKind.wrap .i64 ((IntKind.wrap .i64 ((IntKind.wrap .i64 ((IntKind.wrap .i64 (s1+(1:Int)))+(1:Int)))+(1:Int)))+(1:Int))) (i+1) k))
theorem wsv {u0} {u2}(h0:u0.length<9223372036854775807){K:(q16T⊕q16T)→Option Res}:∀(l:List vaa)(i:Nat)(s1:Int)(n:Nat),u0.drop i=l→l.length<n→vae vpy n (u0,s1,u2,(i:Int)) K=vmu u0 u2 l s1 i (Sum.elim (fun z=>K (.inl (u0,z.1,z.2.1,z.2.2))) (fun z=>K (.inr (u0,z.1,u2,z.2)))):=by
 intro l
 induction l with
 |nil=>
  intro i s1 n hd hn
  have hge:=vbh hd
  cases n with
  |zero=>exact absurd hn (Nat.not_lt_zero _)
  |succ n=>simp only [vae,vpy,vmu,hge,decide_false,cond_false,Sum.elim_inr,Sum.elim_inl]
 |cons y l ih=>
  intro i s1 n hd hn
  obtain⟨hlt,hz,hd2,hw,hnn⟩:=va7 hd h0
  have hy:=va1 hd
  cases n with
  |zero=>exact absurd hn (Nat.not_lt_zero _)
  |succ n=>
   have ih2:=fun(s1:Int)=>ih (i+1) s1 n hd2 (Nat.lt_of_succ_lt_succ hn)
   simp only [vae,vpy,vmu,hlt,hz,decide_true,cond_true,and_self,if_true,hy,hw,hnn,Sum.elim_inl,Sum.elim_inr,ih2]
theorem wve {u0} {u2}(h0:u0.length<9223372036854775807){K:(q16T⊕q16T)→Option Res}{s1:Int}:vae vpy Fuel (u0,s1,u2,(0:Int)) K=vmu u0 u2 u0 s1 0 (Sum.elim (fun z=>K (.inl (u0,z.1,z.2.1,z.2.2))) (fun z=>K (.inr (u0,z.1,u2,z.2)))):=
 wsv h0 u0 0 s1 Fuel rfl (va9 h0)
def wph (a0:(List vaa))(a1:Int)(k:Int→Option Res):Option Res:=
 vmu a0 (0:Int) a0 a1 0 (Sum.elim (fun z24=>
  k z24.2.1) (fun z25=>
  k z25.1))
theorem w2z {a0:(List vaa)}{a1:Int}(h0:a0.length<9223372036854775807){k:Int→Option Res}:v5d a0 a1 k=wph a0 a1 k:=by
 rw [wp2]
 simp only [wht,wph,(wve h0),Sum.elim_inl,Sum.elim_inr]
def vnd (u0:(List dTxn))(u2:Int):List dTxn→Int→Nat→(((Int×Int×Int)⊕(Int×Int))→Option Res)→Option Res
 |[],s1,i,k=>
  k (.inr (s1,(i:Int)))
 |y::l,s1,i,k=>
  bif (y.1 != s1)then
   k (.inl (s1,(-1:Int),(i:Int)))
  else
   bif (y.2.1 != (IntKind.wrap .i64 (s1+(1:Int))))then
    k (.inl ((IntKind.wrap .i64 (s1+(1:Int))),(-1:Int),(i:Int)))
   else
    bif (y.2.2.1 != (IntKind.wrap .i64 ((IntKind.wrap .i64 (s1+(1:Int)))+(1:Int))))then
     k (.inl ((IntKind.wrap .i64 ((IntKind.wrap .i64 (s1+(1:Int)))+(1:Int))),(-1:Int),(i:Int)))
    else
     bif (y.2.2.2.1 != (IntKind.wrap .i64 ((IntKind.wrap .i64 ((IntKind.wrap .i64 (s1+(1:Int)))+(1:Int)))+(1:Int))))then
      k (.inl ((IntKind.wrap .i64 ((IntKind.wrap .i64 ((IntKind.wrap .i64 (s1+(1:Int)))+(1:Int)))+(1:Int))),(-1:Int),(i:Int)))
     else
      vt4 y.2.2.2.2.1 (IntKind.wrap .i64 ((IntKind.wrap .i64 ((IntKind.wrap .i64 ((IntKind.wrap .i64 (s1+(1:Int)))+(1:Int)))+(1:Int)))+(1:Int))) (fun y1=>
       bif (decide (y1<(0:Int)))then
        k (.inl (y1,(-1:Int),(i:Int)))
       else
        vtj y.2.2.2.2.2.1 y1 (fun y2=>
         bif (decide (y2<(0:Int)))then
          k (.inl (y2,(-1:Int),(i:Int)))
         else
          bif (!(y.2.2.2.2.2.2.1==((y2.tmod (3:Int))==(0:Int))))then
           k (.inl (y2,(-1:Int),(i:Int)))
          else
           vc8 (IntKind.wrap .i64 (y2+(1:Int))) (fun y3=>
            bif (!(vap (y.2.2.2.2.2.2.2) y3))then
             k (.inl ((IntKind.wrap .i64 (y2+(1:Int))),(-1:Int),(i:Int)))
            else
             vnd u0 u2 l (IntKind.wrap .i64 ((IntKind.wrap .i64 (y2+(1:Int)))+(1:Int))) (i+1) k)))
theorem wtc {u0} {u2}(h0:u0.length<9223372036854775807){K:(q11T⊕q11T)→Option Res}:∀(l:List dTxn)(i:Nat)(s1:Int)(n:Nat),u0.drop i=l→l.length<n→vae vo7 n (u0,s1,u2,(i:Int)) K=vnd u0 u2 l s1 i (Sum.elim (fun z=>K (.inl (u0,z.1,z.2.1,z.2.2))) (fun z=>K (.inr (u0,z.1,u2,z.2)))):=by
 intro l
 induction l with
 |nil=>
  intro i s1 n hd hn
  have hge:=vbh hd
  cases n with
  |zero=>exact absurd hn (Nat.not_lt_zero _)
  |succ n=>simp only [vae,vo7,vnd,hge,decide_false,cond_false,Sum.elim_inr,Sum.elim_inl]
 |cons y l ih=>
  intro i s1 n hd hn
  obtain⟨hlt,hz,hd2,hw,hnn⟩:=va7 hd h0
  have hy:=va1 hd
  cases n with
  |zero=>exact absurd hn (Nat.not_lt_zero _)
  |succ n=>
   have ih2:=fun(s1:Int)=>ih (i+1) s1 n hd2 (Nat.lt_of_succ_lt_succ hn)
   simp only [vae,vo7,vnd,hlt,hz,decide_true,cond_true,and_self,if_true,hy,hw,hnn,Sum.elim_inl,Sum.elim_inr,ih2]
theorem wu5 {u0} {u2}(h0:u0.length<9223372036854775807){K:(q11T⊕q11T)→Option Res}{s1:Int}:vae vo7 Fuel (u0,s1,u2,(0:Int)) K=vnd u0 u2 u0 s1 0 (Sum.elim (fun z=>K (.inl (u0,z.1,z.2.1,z.2.2))) (fun z=>K (.inr (u0,z.1,u2,z.2)))):=
 wtc h0 u0 0 s1 Fuel rfl (va9 h0)
def woe (a0:(List dTxn))(a1:Int)(k:Int→Option Res):Option Res:=
 vnd a0 (0:Int) a0 a1 0 (Sum.elim (fun z24=>
  k z24.2.1) (fun z25=>
  k z25.1))
theorem w1s {a0:(List dTxn)}{a1:Int}(h0:a0.length<9223372036854775807){k:Int→Option Res}:vzx a0 a1 k=woe a0 a1 k:=by
 rw [woc]
 simp only [whr,woe,(wu5 h0),Sum.elim_inl,Sum.elim_inr]
def wnc (a0:ByteArray)(k:Bool→Option Res):Option Res:=
 bif (decide ((a0.size:Int)>(1048576:Int)))then
  k true
 else
  v2x a0 (Sum.elim (fun y24=>
   let y24h:=y24.2.2.2.2.2.2.2.2
   let y24hh:=y24h.2.2.2.2.2.2.2.2
   vrd a0 (fun y25=>
    let y25h:=y25.2.2.2.2.2.2.2.2
    let y25hh:=y25h.2.2.2.2.2.2.2.2
    vp3 (y25.1,((y25.2.1,(y25.2.2.1,(y25.2.2.2.1,(y25.2.2.2.2.1,(y25h.2.2.2.2.1,(y25h.2.2.2.2.2.1,(y25.2.2.2.2.2.1,y25.2.2.2.2.2.2.1))))))),(y25.2.2.2.2.2.2.2.1,(y25h.1,(y25h.2.2.2.2.2.2.1,(y25h.2.2.2.2.2.2.2.1,(y25hh,(y25h.2.1,y25h.2.2.1)))))))) (y24.1,((y24.2.1,(y24.2.2.1,(y24.2.2.2.1,(y24.2.2.2.2.1,(y24h.2.2.2.2.1,(y24h.2.2.2.2.2.1,(y24.2.2.2.2.2.1,y24.2.2.2.2.2.2.1))))))),(y24.2.2.2.2.2.2.2.1,(y24h.1,(y24h.2.2.2.2.2.2.1,(y24h.2.2.2.2.2.2.2.1,(y24hh,(y24h.2.1,y24h.2.2.1)))))))) (fun y26=>
     bif (!y26)then
      k false
     else
      bif (!(y25h.2.2.2.1==y24h.2.2.2.1))then
       k false
      else
       vb1 (.inl (a0,false,y24h.2.2.2.1,y24.1,y24.2.1,y24.2.2.1,y24.2.2.2.1,y24.2.2.2.2.1,y24.2.2.2.2.2.1,y24.2.2.2.2.2.2.1,y24.2.2.2.2.2.2.2.1,y24h.1,y24h.2.1,y24h.2.2.1,y25.1,y25.2.1,y25.2.2.1,y25.2.2.2.1,y25.2.2.2.2.1,y25.2.2.2.2.2.1,y25.2.2.2.2.2.2.1,y25.2.2.2.2.2.2.2.1,y25h.1,y25h.2.1,y25h.2.2.1,y24h.2.2.2.2.1,y24h.2.2.2.2.2.1,y24h.2.2.2.2.2.2.1,y24h.2.2.2.2.2.2.2.1,y24hh,y25h.2.2.2.2.1,y25h.2.2.2.2.2.1,y25h.2.2.2.2.2.2.1,y25h.2.2.2.2.2.2.2.1,y25hh)) (Sum.elim (fun z27=>
        k z27.2.1) (Sum.elim (fun z28=>
        k z28.2.1) (fun z29=>
        k z29.1)))))) (fun y30=>
   let y30h:=y30.2.2.2.2.2.2.2.2
   let y30hh:=y30h.2.2.2.2.2.2.2.2
   vrd a0 (fun y31=>
    let y31h:=y31.2.2.2.2.2.2.2.2
    let y31hh:=y31h.2.2.2.2.2.2.2.2
    vp3 (y31.1,((y31.2.1,(y31.2.2.1,(y31.2.2.2.1,(y31.2.2.2.2.1,(y31h.2.2.2.2.1,(y31h.2.2.2.2.2.1,(y31.2.2.2.2.2.1,y31.2.2.2.2.2.2.1))))))),(y31.2.2.2.2.2.2.2.1,(y31h.1,(y31h.2.2.2.2.2.2.1,(y31h.2.2.2.2.2.2.2.1,(y31hh,(y31h.2.1,y31h.2.2.1)))))))) (y30.1,((y30.2.1,(y30.2.2.1,(y30.2.2.2.1,(y30.2.2.2.2.1,(y30h.2.2.2.2.1,(y30h.2.2.2.2.2.1,(y30.2.2.2.2.2.1,y30.2.2.2.2.2.2.1))))))),(y30.2.2.2.2.2.2.2.1,(y30h.1,(y30h.2.2.2.2.2.2.1,(y30h.2.2.2.2.2.2.2.1,(y30hh,(y30h.2.1,y30h.2.2.1)))))))) (fun y32=>
     bif (!y32)then
      k false
     else
      bif (!(y31h.2.2.2.1==y30h.2.2.2.1))then
       k false
      else
       vb1 (.inr (a0,false,y30h.2.2.2.1,y30.1,y30.2.1,y30.2.2.1,y30.2.2.2.1,y30.2.2.2.2.1,y30.2.2.2.2.2.1,y30.2.2.2.2.2.2.1,y30.2.2.2.2.2.2.2.1,y30h.1,y30h.2.1,y30h.2.2.1,y31.1,y31.2.1,y31.2.2.1,y31.2.2.2.1,y31.2.2.2.2.1,y31.2.2.2.2.2.1,y31.2.2.2.2.2.2.1,y31.2.2.2.2.2.2.2.1,y31h.1,y31h.2.1,y31h.2.2.1,y30h.2.2.2.2.1,y30h.2.2.2.2.2.1,y30h.2.2.2.2.2.2.1,y30h.2.2.2.2.2.2.2.1,y30hh,y31h.2.2.2.2.1,y31h.2.2.2.2.2.1,y31h.2.2.2.2.2.2.1,y31h.2.2.2.2.2.2.2.1,y31hh)) (Sum.elim (fun z33=>
        k z33.2.1) (Sum.elim (fun z34=>
        k z34.2.1) (fun z35=>
        k z35.1)))))))
theorem w23 {a0:ByteArray}  {k:Bool→Option Res}:wa7 a0 k=wnc a0 k:=by
 rw [wqf]
 simp only [wgb,wnc,Sum.elim_inl,Sum.elim_inr]
end
end Go.VE
