/- Loops told as recursions over what is left; written by gen.py. -/
import Derived.Test.YtcccpkohlkfhoaaSameFromN
import Derived.Test.YtcccpkohlkfhoaaP1
namespace Go.VE
noncomputable section
set_option linter.unusedVariables false
set_option linter.unusedSimpArgs false
set_option maxRecDepth 100000
def vh5 (u0:(List vaa))(u2:Int):List vaa→Int→Nat→(((Int×Int×Int)⊕(Int×Int))→Option Res)→Option Res
 |[],s1,i,k=>
  k (.inr (s1,(i:Int)))
 |y::l,s1,i,k=>
  vmw y s1 (fun y1=>
   bif (decide (y1<(0:Int)))then
    k (.inl (y1,(-1:Int),(i:Int)))
   else
    vh5 u0 u2 l y1 (i+1) k)
theorem vyq {u0} {u2}(h0:u0.length<9223372036854775807){K:(q15T⊕q15T)→Option Res}:∀(l:List vaa)(i:Nat)(s1:Int)(n:Nat),u0.drop i=l→l.length<n→vaf vgj n (u0,s1,u2,(i:Int)) K=vh5 u0 u2 l s1 i (Sum.elim (fun z=>K (.inl (u0,z.1,z.2.1,z.2.2))) (fun z=>K (.inr (u0,z.1,u2,z.2)))):=by
 intro l
 induction l with
 |nil=>
  intro i s1 n hd hn
  have hge:=vbi hd
  cases n with
  |zero=>exact absurd hn (Nat.not_lt_zero _)
  |succ n=>simp only [vaf,vgj,vh5,hge,decide_false,cond_false,Sum.elim_inr,Sum.elim_inl]
 |cons y l ih=>
  intro i s1 n hd hn
  obtain⟨hlt,hz,hd2,hw,hnn⟩:=vck hd h0
  have hy:=vbg hd
  cases n with
  |zero=>exact absurd hn (Nat.not_lt_zero _)
  |succ n=>
   have ih2:=fun(s1:Int)=>ih (i+1) s1 n hd2 (Nat.lt_of_succ_lt_succ hn)
   simp only [vaf,vgj,vh5,hlt,hz,decide_true,cond_true,and_self,if_true,hy,hw,hnn,Sum.elim_inl,Sum.elim_inr,ih2]
theorem vzv {u0} {u2}(h0:u0.length<9223372036854775807){K:(q15T⊕q15T)→Option Res}{s1:Int}:vaf vgj Fuel (u0,s1,u2,(0:Int)) K=vh5 u0 u2 u0 s1 0 (Sum.elim (fun z=>K (.inl (u0,z.1,z.2.1,z.2.2))) (fun z=>K (.inr (u0,z.1,u2,z.2)))):=
 vyq h0 u0 0 s1 Fuel rfl (vc0 h0)
def vej (u0:(List vaa)):List vaa→(List vaa)→Nat→((Int×(List vaa))→Option Res)→Option Res
 |[],s2,i,k=>
  k ((i:Int),s2)
 |y::l,s2,i,k=>
  vnb y (fun y1=>
   if 0≤(i:Int)∧(i:Int)<(s2.length:Int)then
    vej u0 l (s2.set (i:Int).toNat y1) (i+1) k
   else none)
theorem vyv {u0}(h0:u0.length<9223372036854775807){K:q9T→Option Res}:∀(l:List vaa)(i:Nat)(s2:(List vaa))(n:Nat),u0.drop i=l→l.length<n→vaf vgi n (u0,(i:Int),s2) K=vej u0 l s2 i (fun z=>K (u0,z.1,z.2)):=by
 intro l
 induction l with
 |nil=>
  intro i s2 n hd hn
  have hge:=vbi hd
  cases n with
  |zero=>exact absurd hn (Nat.not_lt_zero _)
  |succ n=>simp only [vaf,vgi,vej,hge,decide_false,cond_false,Sum.elim_inr,Sum.elim_inl]
 |cons y l ih=>
  intro i s2 n hd hn
  obtain⟨hlt,hz,hd2,hw,hnn⟩:=vck hd h0
  have hy:=vbg hd
  cases n with
  |zero=>exact absurd hn (Nat.not_lt_zero _)
  |succ n=>
   have ih2:=fun(s2:(List vaa))=>ih (i+1) s2 n hd2 (Nat.lt_of_succ_lt_succ hn)
   simp only [vaf,vgi,vej,hlt,hz,decide_true,cond_true,and_self,if_true,hy,hw,hnn,Sum.elim_inl,Sum.elim_inr,ih2]
theorem vy9 {u0}(h0:u0.length<9223372036854775807){K:q9T→Option Res}{s2:(List vaa)}:vaf vgi Fuel (u0,(0:Int),s2) K=vej u0 u0 s2 0 (fun z=>K (u0,z.1,z.2)):=
 vyv h0 u0 0 s2 Fuel rfl (vc0 h0)
def vxd (a0:(List vaa))(k:(List vaa)→Option Res):Option Res:=
 if 0≤(a0.length:Int)∧(a0.length:Int)≤(a0.length:Int)∧(a0.length:Int)≤(VE.maxLen:Int)then
  vej a0 a0 (List.replicate (a0.length:Int).toNat (Ty.zero tVersion)) 0 (fun z13=>
   k z13.2)
 else none
theorem v3o {a0:(List vaa)}(h0:a0.length<9223372036854775807){k:(List vaa)→Option Res}:vgw a0 k=vxd a0 k:=by
 rw [vx0]
 simp only [vto,vxd,(vy9 h0),Sum.elim_inl,Sum.elim_inr]
def vdf (u0:(List vaa))(u1:ByteArray)(u2:Int):List vaa→Int→Nat→((Int×Int)→Option Res)→Option Res
 |[],s3,i,k=>
  k (s3,(i:Int))
 |y::l,s3,i,k=>
  bif (vbm (y.1) u1)then
   bif (decide (y.2.2.2≤u2))then
    bif (decide (s3<(0:Int)))then
     vdf u0 u1 u2 l (i:Int) (i+1) k
    else
     if 0≤s3∧s3<(u0.length:Int)then
      bif (decide (y.2.2.2>(rd (Ty.zero tVersion) u0 s3).2.2.2))then
       vdf u0 u1 u2 l (i:Int) (i+1) k
      else
       vdf u0 u1 u2 l s3 (i+1) k
     else none
   else
    vdf u0 u1 u2 l s3 (i+1) k
  else
   vdf u0 u1 u2 l s3 (i+1) k
theorem vzl {u0} {u1} {u2}(h0:u0.length<9223372036854775807){K:q8T→Option Res}:∀(l:List vaa)(i:Nat)(s3:Int)(n:Nat),u0.drop i=l→l.length<n→vaf vgl n (u0,u1,u2,s3,(i:Int)) K=vdf u0 u1 u2 l s3 i (fun z=>K (u0,u1,u2,z.1,z.2)):=by
 intro l
 induction l with
 |nil=>
  intro i s3 n hd hn
  have hge:=vbi hd
  cases n with
  |zero=>exact absurd hn (Nat.not_lt_zero _)
  |succ n=>simp only [vaf,vgl,vdf,hge,decide_false,cond_false,Sum.elim_inr,Sum.elim_inl]
 |cons y l ih=>
  intro i s3 n hd hn
  obtain⟨hlt,hz,hd2,hw,hnn⟩:=vck hd h0
  have hy:=vbg hd
  cases n with
  |zero=>exact absurd hn (Nat.not_lt_zero _)
  |succ n=>
   have ih2:=fun(s3:Int)=>ih (i+1) s3 n hd2 (Nat.lt_of_succ_lt_succ hn)
   simp only [vaf,vgl,vdf,hlt,hz,decide_true,cond_true,and_self,if_true,hy,hw,hnn,Sum.elim_inl,Sum.elim_inr,ih2]
theorem vzs {u0} {u1} {u2}(h0:u0.length<9223372036854775807){K:q8T→Option Res}{s3:Int}:vaf vgl Fuel (u0,u1,u2,s3,(0:Int)) K=vdf u0 u1 u2 u0 s3 0 (fun z=>K (u0,u1,u2,z.1,z.2)):=
 vzl h0 u0 0 s3 Fuel rfl (vc0 h0)
def vwx (a0:(List vaa))(a1:ByteArray)(a2:Int)(k:Int→Option Res):Option Res:=
 vdf a0 a1 a2 a0 (-1:Int) 0 (fun z13=>
  k z13.1)
theorem v3d {a0:(List vaa)}{a1:ByteArray}{a2:Int}(h0:a0.length<9223372036854775807){k:Int→Option Res}:vm7 a0 a1 a2 k=vwx a0 a1 a2 k:=by
 rw [vxs]
 simp only [vua,vwx,(vzs h0),Sum.elim_inl,Sum.elim_inr]
def vgu (u0:(List vam))(u1:(List vam))(u2:Bool):List vam→Nat→(((Bool×Int)⊕Int)→Option Res)→Option Res
 |[],i,k=>
  k (.inr (i:Int))
 |y::l,i,k=>
  if 0≤(i:Int)∧(i:Int)<(u1.length:Int)then
   bif (!(Ty.eqB tRange y (rd (Ty.zero tRange) u1 (i:Int))))then
    k (.inl (false,(i:Int)))
   else
    vgu u0 u1 u2 l (i+1) k
  else none
theorem vzu {u0} {u1} {u2}(h0:u0.length<9223372036854775807){K:(q3T⊕q3T)→Option Res}:∀(l:List vam)(i:Nat)  (n:Nat),u0.drop i=l→l.length<n→vaf vgd n (u0,u1,u2,(i:Int)) K=vgu u0 u1 u2 l  i (Sum.elim (fun z=>K (.inl (u0,u1,z.1,z.2))) (fun z=>K (.inr (u0,u1,u2,z)))):=by
 intro l
 induction l with
 |nil=>
  intro i  n hd hn
  have hge:=vbi hd
  cases n with
  |zero=>exact absurd hn (Nat.not_lt_zero _)
  |succ n=>simp only [vaf,vgd,vgu,hge,decide_false,cond_false,Sum.elim_inr,Sum.elim_inl]
 |cons y l ih=>
  intro i  n hd hn
  obtain⟨hlt,hz,hd2,hw,hnn⟩:=vck hd h0
  have hy:=vbg hd
  cases n with
  |zero=>exact absurd hn (Nat.not_lt_zero _)
  |succ n=>
   have ih2:=ih (i+1)  n hd2 (Nat.lt_of_succ_lt_succ hn)
   simp only [vaf,vgd,vgu,hlt,hz,decide_true,cond_true,and_self,if_true,hy,hw,hnn,Sum.elim_inl,Sum.elim_inr,ih2]
theorem vy7 {u0} {u1} {u2}(h0:u0.length<9223372036854775807){K:(q3T⊕q3T)→Option Res}  : vaf vgd Fuel (u0,u1,u2,(0:Int)) K=vgu u0 u1 u2 u0  0 (Sum.elim (fun z=>K (.inl (u0,u1,z.1,z.2))) (fun z=>K (.inr (u0,u1,u2,z)))):=
 vzu h0 u0 0  Fuel rfl (vc0 h0)
def vwq (a0:(List vam))(a1:(List vam))(k:Bool→Option Res):Option Res:=
 bif ((a0.length:Int) != (a1.length:Int))then
  k false
 else
  vgu a0 a1 false a0  0 (Sum.elim (fun z13=>
   k z13.1) (fun _=>
   k true))
theorem v3i {a0:(List vam)}{a1:(List vam)}(h0:a0.length<9223372036854775807){k:Bool→Option Res}:vk9 a0 a1 k=vwq a0 a1 k:=by
 rw [vxy]
 simp only [vum,vwq,(vy7 h0),Sum.elim_inl,Sum.elim_inr]
def vfp (u0:(List (List vaa)))(u2:(List (List vaa))):List (List vaa)→Int→Nat→((Int×Int)→Option Res)→Option Res
 |[],s1,i,k=>
  k (s1,(i:Int))
 |y::l,s1,i,k=>
  bif (decide ((IntKind.wrap .i64 (s1+(y.length:Int)))<(0:Int)))then
   none
  else
   vfp u0 u2 l (IntKind.wrap .i64 (s1+(y.length:Int))) (i+1) k
theorem vz8 {u0} {u2}(h0:u2.length<9223372036854775807){K:q0T→Option Res}:∀(l:List (List vaa))(i:Nat)(s1:Int)(n:Nat),u2.drop i=l→l.length<n→vaf vfx n (u0,s1,u2,(u2.length:Int),(i:Int)) K=vfp u0 u2 l s1 i (fun z=>K (u0,z.1,u2,(u2.length:Int),z.2)):=by
 intro l
 induction l with
 |nil=>
  intro i s1 n hd hn
  have hge:=vbi hd
  cases n with
  |zero=>exact absurd hn (Nat.not_lt_zero _)
  |succ n=>simp only [vaf,vfx,vfp,hge,decide_false,cond_false,Sum.elim_inr,Sum.elim_inl]
 |cons y l ih=>
  intro i s1 n hd hn
  obtain⟨hlt,hz,hd2,hw,hnn⟩:=vck hd h0
  have hy:=vbg hd
  cases n with
  |zero=>exact absurd hn (Nat.not_lt_zero _)
  |succ n=>
   have ih2:=fun(s1:Int)=>ih (i+1) s1 n hd2 (Nat.lt_of_succ_lt_succ hn)
   simp only [vaf,vfx,vfp,hlt,hz,decide_true,cond_true,and_self,if_true,hy,hw,hnn,Sum.elim_inl,Sum.elim_inr,ih2]
theorem vzw {u0} {u2}(h0:u2.length<9223372036854775807){K:q0T→Option Res}{s1:Int}:vaf vfx Fuel (u0,s1,u2,(u2.length:Int),(0:Int)) K=vfp u0 u2 u2 s1 0 (fun z=>K (u0,z.1,u2,(u2.length:Int),z.2)):=
 vz8 h0 u2 0 s1 Fuel rfl (vc0 h0)
def ve7 (u0:(List (List vaa))):List (List vaa)→(List vaa)→Nat→((Int×(List vaa))→Option Res)→Option Res
 |[],s3,i,k=>
  k ((i:Int),s3)
 |y::l,s3,i,k=>
  if s3.length+y.length≤VE.maxLen then
   ve7 u0 l (s3++y) (i+1) k
  else none
theorem vz5 {u0}(h0:u0.length<9223372036854775807){K:q1T→Option Res}:∀(l:List (List vaa))(i:Nat)(s3:(List vaa))(n:Nat),u0.drop i=l→l.length<n→vaf vf8 n (u0,(u0.length:Int),(i:Int),s3) K=ve7 u0 l s3 i (fun z=>K (u0,(u0.length:Int),z.1,z.2)):=by
 intro l
 induction l with
 |nil=>
  intro i s3 n hd hn
  have hge:=vbi hd
  cases n with
  |zero=>exact absurd hn (Nat.not_lt_zero _)
  |succ n=>simp only [vaf,vf8,ve7,hge,decide_false,cond_false,Sum.elim_inr,Sum.elim_inl]
 |cons y l ih=>
  intro i s3 n hd hn
  obtain⟨hlt,hz,hd2,hw,hnn⟩:=vck hd h0
  have hy:=vbg hd
  cases n with
  |zero=>exact absurd hn (Nat.not_lt_zero _)
  |succ n=>
   have ih2:=fun(s3:(List vaa))=>ih (i+1) s3 n hd2 (Nat.lt_of_succ_lt_succ hn)
   simp only [vaf,vf8,ve7,hlt,hz,decide_true,cond_true,and_self,if_true,hy,hw,hnn,Sum.elim_inl,Sum.elim_inr,ih2]
theorem vzm {u0}(h0:u0.length<9223372036854775807){K:q1T→Option Res}{s3:(List vaa)}:vaf vf8 Fuel (u0,(u0.length:Int),(0:Int),s3) K=ve7 u0 u0 s3 0 (fun z=>K (u0,(u0.length:Int),z.1,z.2)):=
 vz5 h0 u0 0 s3 Fuel rfl (vc0 h0)
def vwk (a0:(List (List vaa)))(k:(List vaa)→Option Res):Option Res:=
 vfp a0 a0 a0 (0:Int) 0 (fun z13=>
  vmz z13.1 (fun y14=>
   ve7 a0 a0 y14 0 (fun z15=>
    k z15.2)))
theorem v3l {a0:(List (List vaa))}(h0:a0.length<9223372036854775807){k:(List vaa)→Option Res}:vnq a0 k=vwk a0 k:=by
 rw [vv6]
 simp only [vuo,vwk,(vzm h0),(vzw h0),Sum.elim_inl,Sum.elim_inr]
def vff (u0:(List vaa)):List vaa→(List ByteArray)→Nat→((Int×(List ByteArray))→Option Res)→Option Res
 |[],s3,i,k=>
  k ((i:Int),s3)
 |y::l,s3,i,k=>
  if s3.length+[y.1].length≤VE.maxLen then
   vff u0 l (s3++[y.1]) (i+1) k
  else none
theorem v0h {u0}(h0:u0.length<9223372036854775807){K:q12T→Option Res}:∀(l:List vaa)(i:Nat)(s3:(List ByteArray))(n:Nat),u0.drop i=l→l.length<n→vaf vgr n (u0,(u0.length:Int),(i:Int),s3) K=vff u0 l s3 i (fun z=>K (u0,(u0.length:Int),z.1,z.2)):=by
 intro l
 induction l with
 |nil=>
  intro i s3 n hd hn
  have hge:=vbi hd
  cases n with
  |zero=>exact absurd hn (Nat.not_lt_zero _)
  |succ n=>simp only [vaf,vgr,vff,hge,decide_false,cond_false,Sum.elim_inr,Sum.elim_inl]
 |cons y l ih=>
  intro i s3 n hd hn
  obtain⟨hlt,hz,hd2,hw,hnn⟩:=vck hd h0
  have hy:=vbg hd
  cases n with
  |zero=>exact absurd hn (Nat.not_lt_zero _)
  |succ n=>
   have ih2:=fun(s3:(List ByteArray))=>ih (i+1) s3 n hd2 (Nat.lt_of_succ_lt_succ hn)
   simp only [vaf,vgr,vff,hlt,hz,decide_true,cond_true,and_self,if_true,hy,hw,hnn,Sum.elim_inl,Sum.elim_inr,ih2]
theorem vzn {u0}(h0:u0.length<9223372036854775807){K:q12T→Option Res}{s3:(List ByteArray)}:vaf vgr Fuel (u0,(u0.length:Int),(0:Int),s3) K=vff u0 u0 s3 0 (fun z=>K (u0,(u0.length:Int),z.1,z.2)):=
 v0h h0 u0 0 s3 Fuel rfl (vc0 h0)
def vwr (a0:(List vaa))(k:(List ByteArray)→Option Res):Option Res:=
 vff a0 a0 ([]:List ByteArray) 0 (fun z13=>
  vnh z13.2 (fun y14=>
   vl8 y14 (Sum.elim (fun y15=>
    k y15) (fun y16=>
    k y16))))
theorem v3b {a0:(List vaa)}(h0:a0.length<9223372036854775807){k:(List ByteArray)→Option Res}:vny a0 k=vwr a0 k:=by
 rw [vwy]
 simp only [vuu,vwr,(vzn h0),Sum.elim_inl,Sum.elim_inr]
def vde (u0:(List vaa))(u1:ByteArray)(u2:Int)(u4:(List vaa)):List vaa→Int→Nat→((Int×Int)→Option Res)→Option Res
 |[],s3,i,k=>
  k (s3,(i:Int))
 |y::l,s3,i,k=>
  bif (vbm (y.1) u1)then
   bif (decide (y.2.2.2≤u2))then
    bif (decide (s3<(0:Int)))then
     vde u0 u1 u2 u4 l (i:Int) (i+1) k
    else
     if 0≤s3∧s3<(u0.length:Int)then
      bif (decide (y.2.2.2>(rd (Ty.zero tVersion) u0 s3).2.2.2))then
       vde u0 u1 u2 u4 l (i:Int) (i+1) k
      else
       vde u0 u1 u2 u4 l s3 (i+1) k
     else none
   else
    vde u0 u1 u2 u4 l s3 (i+1) k
  else
   vde u0 u1 u2 u4 l s3 (i+1) k
theorem vy5 {u0} {u1} {u2} {u4}(h0:u4.length<9223372036854775807){K:q7T→Option Res}:∀(l:List vaa)(i:Nat)(s3:Int)(n:Nat),u4.drop i=l→l.length<n→vaf vgs n (u0,u1,u2,s3,u4,(u4.length:Int),(i:Int)) K=vde u0 u1 u2 u4 l s3 i (fun z=>K (u0,u1,u2,z.1,u4,(u4.length:Int),z.2)):=by
 intro l
 induction l with
 |nil=>
  intro i s3 n hd hn
  have hge:=vbi hd
  cases n with
  |zero=>exact absurd hn (Nat.not_lt_zero _)
  |succ n=>simp only [vaf,vgs,vde,hge,decide_false,cond_false,Sum.elim_inr,Sum.elim_inl]
 |cons y l ih=>
  intro i s3 n hd hn
  obtain⟨hlt,hz,hd2,hw,hnn⟩:=vck hd h0
  have hy:=vbg hd
  cases n with
  |zero=>exact absurd hn (Nat.not_lt_zero _)
  |succ n=>
   have ih2:=fun(s3:Int)=>ih (i+1) s3 n hd2 (Nat.lt_of_succ_lt_succ hn)
   simp only [vaf,vgs,vde,hlt,hz,decide_true,cond_true,and_self,if_true,hy,hw,hnn,Sum.elim_inl,Sum.elim_inr,ih2]
theorem vz7 {u0} {u1} {u2} {u4}(h0:u4.length<9223372036854775807){K:q7T→Option Res}{s3:Int}:vaf vgs Fuel (u0,u1,u2,s3,u4,(u4.length:Int),(0:Int)) K=vde u0 u1 u2 u4 u4 s3 0 (fun z=>K (u0,u1,u2,z.1,u4,(u4.length:Int),z.2)):=
 vy5 h0 u4 0 s3 Fuel rfl (vc0 h0)
def vyc (a0:(List vaa))(a1:ByteArray)(a2:Int)(k:Int→Option Res):Option Res:=
 vde a0 a1 a2 a0 a0 (-1:Int) 0 (fun z13=>
  k z13.1)
theorem v3f {a0:(List vaa)}{a1:ByteArray}{a2:Int}(h0:a0.length<9223372036854775807){k:Int→Option Res}:vn2 a0 a1 a2 k=vyc a0 a1 a2 k:=by
 rw [vxz]
 simp only [vtk,vyc,(vz7 h0),Sum.elim_inl,Sum.elim_inr]
def vf2 (u0:(List vam))(u1:(List vam))(u2:Bool):List vam→Nat→(((Bool×Int)⊕Int)→Option Res)→Option Res
 |[],i,k=>
  k (.inr (i:Int))
 |y::l,i,k=>
  if 0≤(i:Int)∧(i:Int)<(u1.length:Int)then
   bif (!(Ty.eqB tRange y (rd (Ty.zero tRange) u1 (i:Int))))then
    k (.inl (false,(i:Int)))
   else
    vf2 u0 u1 u2 l (i+1) k
  else none
theorem vyx {u0} {u1} {u2}(h0:u0.length<9223372036854775807){K:(q2T⊕q2T)→Option Res}:∀(l:List vam)(i:Nat)  (n:Nat),u0.drop i=l→l.length<n→vaf vgq n (u0,u1,u2,(u0.length:Int),(i:Int)) K=vf2 u0 u1 u2 l  i (Sum.elim (fun z=>K (.inl (u0,u1,z.1,(u0.length:Int),z.2))) (fun z=>K (.inr (u0,u1,u2,(u0.length:Int),z)))):=by
 intro l
 induction l with
 |nil=>
  intro i  n hd hn
  have hge:=vbi hd
  cases n with
  |zero=>exact absurd hn (Nat.not_lt_zero _)
  |succ n=>simp only [vaf,vgq,vf2,hge,decide_false,cond_false,Sum.elim_inr,Sum.elim_inl]
 |cons y l ih=>
  intro i  n hd hn
  obtain⟨hlt,hz,hd2,hw,hnn⟩:=vck hd h0
  have hy:=vbg hd
  cases n with
  |zero=>exact absurd hn (Nat.not_lt_zero _)
  |succ n=>
   have ih2:=ih (i+1)  n hd2 (Nat.lt_of_succ_lt_succ hn)
   simp only [vaf,vgq,vf2,hlt,hz,decide_true,cond_true,and_self,if_true,hy,hw,hnn,Sum.elim_inl,Sum.elim_inr,ih2]
theorem vzo {u0} {u1} {u2}(h0:u0.length<9223372036854775807){K:(q2T⊕q2T)→Option Res}  : vaf vgq Fuel (u0,u1,u2,(u0.length:Int),(0:Int)) K=vf2 u0 u1 u2 u0  0 (Sum.elim (fun z=>K (.inl (u0,u1,z.1,(u0.length:Int),z.2))) (fun z=>K (.inr (u0,u1,u2,(u0.length:Int),z)))):=
 vyx h0 u0 0  Fuel rfl (vc0 h0)
def vwz (a0:(List vam))(a1:(List vam))(k:Bool→Option Res):Option Res:=
 bif ((a0.length:Int) != (a1.length:Int))then
  k false
 else
  vf2 a0 a1 false a0  0 (Sum.elim (fun z13=>
   k z13.1) (fun _=>
   k true))
theorem v2m {a0:(List vam)}{a1:(List vam)}(h0:a0.length<9223372036854775807){k:Bool→Option Res}:vm4 a0 a1 k=vwz a0 a1 k:=by
 rw [vwb]
 simp only [vts,vwz,(vzo h0),Sum.elim_inl,Sum.elim_inr]
def vgm (u0:(List vaa))(u1:(List vaa))(u2:Bool):List vaa→Nat→(((Bool×Int)⊕Int)→Option Res)→Option Res
 |[],i,k=>
  k (.inr (i:Int))
 |y::l,i,k=>
  if 0≤(i:Int)∧(i:Int)<(u1.length:Int)then
   vno y (rd (Ty.zero tVersion) u1 (i:Int)) (fun y1=>
    bif (!y1)then
     k (.inl (false,(i:Int)))
    else
     vgm u0 u1 u2 l (i+1) k)
  else none
theorem vzh {u0} {u1} {u2}(h0:u0.length<9223372036854775807){K:(q4T⊕q4T)→Option Res}:∀(l:List vaa)(i:Nat)  (n:Nat),u0.drop i=l→l.length<n→vaf vgt n (u0,u1,u2,(i:Int)) K=vgm u0 u1 u2 l  i (Sum.elim (fun z=>K (.inl (u0,u1,z.1,z.2))) (fun z=>K (.inr (u0,u1,u2,z)))):=by
 intro l
 induction l with
 |nil=>
  intro i  n hd hn
  have hge:=vbi hd
  cases n with
  |zero=>exact absurd hn (Nat.not_lt_zero _)
  |succ n=>simp only [vaf,vgt,vgm,hge,decide_false,cond_false,Sum.elim_inr,Sum.elim_inl]
 |cons y l ih=>
  intro i  n hd hn
  obtain⟨hlt,hz,hd2,hw,hnn⟩:=vck hd h0
  have hy:=vbg hd
  cases n with
  |zero=>exact absurd hn (Nat.not_lt_zero _)
  |succ n=>
   have ih2:=ih (i+1)  n hd2 (Nat.lt_of_succ_lt_succ hn)
   simp only [vaf,vgt,vgm,hlt,hz,decide_true,cond_true,and_self,if_true,hy,hw,hnn,Sum.elim_inl,Sum.elim_inr,ih2]
theorem vyo {u0} {u1} {u2}(h0:u0.length<9223372036854775807){K:(q4T⊕q4T)→Option Res}  : vaf vgt Fuel (u0,u1,u2,(0:Int)) K=vgm u0 u1 u2 u0  0 (Sum.elim (fun z=>K (.inl (u0,u1,z.1,z.2))) (fun z=>K (.inr (u0,u1,u2,z)))):=
 vzh h0 u0 0  Fuel rfl (vc0 h0)
def vwg (a0:(List vaa))(a1:(List vaa))(k:Bool→Option Res):Option Res:=
 bif ((a0.length:Int) != (a1.length:Int))then
  k false
 else
  vgm a0 a1 false a0  0 (Sum.elim (fun z13=>
   k z13.1) (fun _=>
   k true))
theorem v2t {a0:(List vaa)}{a1:(List vaa)}(h0:a0.length<9223372036854775807){k:Bool→Option Res}:vk1 a0 a1 k=vwg a0 a1 k:=by
 rw [vx5]
 simp only [vuv,vwg,(vyo h0),Sum.elim_inl,Sum.elim_inr]
end
end Go.VE
