/- Loops told as recursions over what is left; written by gen.py. -/
import Derived.Test.YtcccpkohlkfhoaaScanAtN
import Derived.Test.YtcccpkohlkfhoaaP1
namespace Go.VE
noncomputable section
set_option linter.unusedVariables false
set_option linter.unusedSimpArgs false
set_option maxRecDepth 100000
def via (u0:(List vaa))(u2:Int):List vaa→Int→Nat→(((Int×Int×Int)⊕(Int×Int))→Option Res)→Option Res
 |[],s1,i,k=>
  k (.inr (s1,(i:Int)))
 |y::l,s1,i,k=>
  vnp y s1 (fun y1=>
   bif (decide (y1<(0:Int)))then
    k (.inl (y1,(-1:Int),(i:Int)))
   else
    via u0 u2 l y1 (i+1) k)
theorem vzw {u0} {u2}(h0:u0.length<9223372036854775807){K:(q12T⊕q12T)→Option Res}:∀(l:List vaa)(i:Nat)(s1:Int)(n:Nat),u0.drop i=l→l.length<n→vag vf1 n (u0,s1,u2,(i:Int)) K=via u0 u2 l s1 i (Sum.elim (fun z=>K (.inl (u0,z.1,z.2.1,z.2.2))) (fun z=>K (.inr (u0,z.1,u2,z.2)))):=by
 intro l
 induction l with
 |nil=>
  intro i s1 n hd hn
  have hge:=vca hd
  cases n with
  |zero=>exact absurd hn (Nat.not_lt_zero _)
  |succ n=>simp only [vag,vf1,via,hge,decide_false,cond_false,Sum.elim_inr,Sum.elim_inl]
 |cons y l ih=>
  intro i s1 n hd hn
  obtain⟨hlt,hz,hd2,hw,hnn⟩:=vdl hd h0
  have hy:=vbq hd
  cases n with
  |zero=>exact absurd hn (Nat.not_lt_zero _)
  |succ n=>
   have ih2:=fun(s1:Int)=>ih (i+1) s1 n hd2 (Nat.lt_of_succ_lt_succ hn)
   simp only [vag,vf1,via,hlt,hz,decide_true,cond_true,and_self,if_true,hy,hw,hnn,Sum.elim_inl,Sum.elim_inr,ih2]
theorem vy2 {u0} {u2}(h0:u0.length<9223372036854775807){K:(q12T⊕q12T)→Option Res}{s1:Int}:vag vf1 Fuel (u0,s1,u2,(0:Int)) K=via u0 u2 u0 s1 0 (Sum.elim (fun z=>K (.inl (u0,z.1,z.2.1,z.2.2))) (fun z=>K (.inr (u0,z.1,u2,z.2)))):=
 vzw h0 u0 0 s1 Fuel rfl (vef h0)
def vei (u0:(List vaa)):List vaa→(List vaa)→Nat→((Int×(List vaa))→Option Res)→Option Res
 |[],s2,i,k=>
  k ((i:Int),s2)
 |y::l,s2,i,k=>
  vn0 y (fun y1=>
   if 0≤(i:Int)∧(i:Int)<(s2.length:Int)then
    vei u0 l (s2.set (i:Int).toNat y1) (i+1) k
   else none)
theorem vyy {u0}(h0:u0.length<9223372036854775807){K:q5T→Option Res}:∀(l:List vaa)(i:Nat)(s2:(List vaa))(n:Nat),u0.drop i=l→l.length<n→vag vgv n (u0,(i:Int),s2) K=vei u0 l s2 i (fun z=>K (u0,z.1,z.2)):=by
 intro l
 induction l with
 |nil=>
  intro i s2 n hd hn
  have hge:=vca hd
  cases n with
  |zero=>exact absurd hn (Nat.not_lt_zero _)
  |succ n=>simp only [vag,vgv,vei,hge,decide_false,cond_false,Sum.elim_inr,Sum.elim_inl]
 |cons y l ih=>
  intro i s2 n hd hn
  obtain⟨hlt,hz,hd2,hw,hnn⟩:=vdl hd h0
  have hy:=vbq hd
  cases n with
  |zero=>exact absurd hn (Nat.not_lt_zero _)
  |succ n=>
   have ih2:=fun(s2:(List vaa))=>ih (i+1) s2 n hd2 (Nat.lt_of_succ_lt_succ hn)
   simp only [vag,vgv,vei,hlt,hz,decide_true,cond_true,and_self,if_true,hy,hw,hnn,Sum.elim_inl,Sum.elim_inr,ih2]
theorem vy4 {u0}(h0:u0.length<9223372036854775807){K:q5T→Option Res}{s2:(List vaa)}:vag vgv Fuel (u0,(0:Int),s2) K=vei u0 u0 s2 0 (fun z=>K (u0,z.1,z.2)):=
 vyy h0 u0 0 s2 Fuel rfl (vef h0)
def vyj (a0:(List vaa))(k:(List vaa)→Option Res):Option Res:=
 if 0≤(a0.length:Int)∧(a0.length:Int)≤(a0.length:Int)∧(a0.length:Int)≤(VE.maxLen:Int)then
  vei a0 a0 (List.replicate (a0.length:Int).toNat (Ty.zero tVersion)) 0 (fun z22=>
   k z22.2)
 else none
theorem v2i {a0:(List vaa)}(h0:a0.length<9223372036854775807){k:(List vaa)→Option Res}:ve1 a0 k=vyj a0 k:=by
 rw [vx7]
 simp only [vuz,vyj,(vy4 h0),Sum.elim_inl,Sum.elim_inr]
def vdd (u0:(List vaa))(u1:ByteArray)(u2:Int):List vaa→Int→Nat→((Int×Int)→Option Res)→Option Res
 |[],s3,i,k=>
  k (s3,(i:Int))
 |y::l,s3,i,k=>
  bif (va9 (y.1) u1)then
   bif (decide (y.2.2.2≤u2))then
    bif (decide (s3<(0:Int)))then
     vdd u0 u1 u2 l (i:Int) (i+1) k
    else
     if 0≤s3∧s3<(u0.length:Int)then
      bif (decide (y.2.2.2>(rd (Ty.zero tVersion) u0 s3).2.2.2))then
       vdd u0 u1 u2 l (i:Int) (i+1) k
      else
       vdd u0 u1 u2 l s3 (i+1) k
     else none
   else
    vdd u0 u1 u2 l s3 (i+1) k
  else
   vdd u0 u1 u2 l s3 (i+1) k
theorem vzn {u0} {u1} {u2}(h0:u0.length<9223372036854775807){K:q4T→Option Res}:∀(l:List vaa)(i:Nat)(s3:Int)(n:Nat),u0.drop i=l→l.length<n→vag vgs n (u0,u1,u2,s3,(i:Int)) K=vdd u0 u1 u2 l s3 i (fun z=>K (u0,u1,u2,z.1,z.2)):=by
 intro l
 induction l with
 |nil=>
  intro i s3 n hd hn
  have hge:=vca hd
  cases n with
  |zero=>exact absurd hn (Nat.not_lt_zero _)
  |succ n=>simp only [vag,vgs,vdd,hge,decide_false,cond_false,Sum.elim_inr,Sum.elim_inl]
 |cons y l ih=>
  intro i s3 n hd hn
  obtain⟨hlt,hz,hd2,hw,hnn⟩:=vdl hd h0
  have hy:=vbq hd
  cases n with
  |zero=>exact absurd hn (Nat.not_lt_zero _)
  |succ n=>
   have ih2:=fun(s3:Int)=>ih (i+1) s3 n hd2 (Nat.lt_of_succ_lt_succ hn)
   simp only [vag,vgs,vdd,hlt,hz,decide_true,cond_true,and_self,if_true,hy,hw,hnn,Sum.elim_inl,Sum.elim_inr,ih2]
theorem vz7 {u0} {u1} {u2}(h0:u0.length<9223372036854775807){K:q4T→Option Res}{s3:Int}:vag vgs Fuel (u0,u1,u2,s3,(0:Int)) K=vdd u0 u1 u2 u0 s3 0 (fun z=>K (u0,u1,u2,z.1,z.2)):=
 vzn h0 u0 0 s3 Fuel rfl (vef h0)
def vwe (a0:(List vaa))(a1:ByteArray)(a2:Int)(k:Int→Option Res):Option Res:=
 vdd a0 a1 a2 a0 (-1:Int) 0 (fun z22=>
  k z22.1)
theorem v2n {a0:(List vaa)}{a1:ByteArray}{a2:Int}(h0:a0.length<9223372036854775807){k:Int→Option Res}:vm4 a0 a1 a2 k=vwe a0 a1 a2 k:=by
 rw [vx8]
 simp only [vtm,vwe,(vz7 h0),Sum.elim_inl,Sum.elim_inr]
def vfg (u0:(List vaa)):List vaa→(List ByteArray)→Nat→((Int×(List ByteArray))→Option Res)→Option Res
 |[],s3,i,k=>
  k ((i:Int),s3)
 |y::l,s3,i,k=>
  if s3.length+[y.1].length≤VE.maxLen then
   vfg u0 l (s3++[y.1]) (i+1) k
  else none
theorem vy5 {u0}(h0:u0.length<9223372036854775807){K:q9T→Option Res}:∀(l:List vaa)(i:Nat)(s3:(List ByteArray))(n:Nat),u0.drop i=l→l.length<n→vag vgx n (u0,(u0.length:Int),(i:Int),s3) K=vfg u0 l s3 i (fun z=>K (u0,(u0.length:Int),z.1,z.2)):=by
 intro l
 induction l with
 |nil=>
  intro i s3 n hd hn
  have hge:=vca hd
  cases n with
  |zero=>exact absurd hn (Nat.not_lt_zero _)
  |succ n=>simp only [vag,vgx,vfg,hge,decide_false,cond_false,Sum.elim_inr,Sum.elim_inl]
 |cons y l ih=>
  intro i s3 n hd hn
  obtain⟨hlt,hz,hd2,hw,hnn⟩:=vdl hd h0
  have hy:=vbq hd
  cases n with
  |zero=>exact absurd hn (Nat.not_lt_zero _)
  |succ n=>
   have ih2:=fun(s3:(List ByteArray))=>ih (i+1) s3 n hd2 (Nat.lt_of_succ_lt_succ hn)
   simp only [vag,vgx,vfg,hlt,hz,decide_true,cond_true,and_self,if_true,hy,hw,hnn,Sum.elim_inl,Sum.elim_inr,ih2]
theorem vy7 {u0}(h0:u0.length<9223372036854775807){K:q9T→Option Res}{s3:(List ByteArray)}:vag vgx Fuel (u0,(u0.length:Int),(0:Int),s3) K=vfg u0 u0 s3 0 (fun z=>K (u0,(u0.length:Int),z.1,z.2)):=
 vy5 h0 u0 0 s3 Fuel rfl (vef h0)
def vwq (a0:(List vaa))(k:(List ByteArray)→Option Res):Option Res:=
 vfg a0 a0 ([]:List ByteArray) 0 (fun z22=>
  vmo z22.2 (fun y23=>
   vlt y23 (Sum.elim (fun y24=>
    k y24) (fun y25=>
    k y25))))
theorem v2x {a0:(List vaa)}(h0:a0.length<9223372036854775807){k:(List ByteArray)→Option Res}:vnb a0 k=vwq a0 k:=by
 rw [vx0]
 simp only [vt3,vwq,(vy7 h0),Sum.elim_inl,Sum.elim_inr]
def vda (u0:(List vaa))(u1:ByteArray)(u2:Int)(u4:(List vaa)):List vaa→Int→Nat→((Int×Int)→Option Res)→Option Res
 |[],s3,i,k=>
  k (s3,(i:Int))
 |y::l,s3,i,k=>
  bif (va9 (y.1) u1)then
   bif (decide (y.2.2.2≤u2))then
    bif (decide (s3<(0:Int)))then
     vda u0 u1 u2 u4 l (i:Int) (i+1) k
    else
     if 0≤s3∧s3<(u0.length:Int)then
      bif (decide (y.2.2.2>(rd (Ty.zero tVersion) u0 s3).2.2.2))then
       vda u0 u1 u2 u4 l (i:Int) (i+1) k
      else
       vda u0 u1 u2 u4 l s3 (i+1) k
     else none
   else
    vda u0 u1 u2 u4 l s3 (i+1) k
  else
   vda u0 u1 u2 u4 l s3 (i+1) k
theorem vy8 {u0} {u1} {u2} {u4}(h0:u4.length<9223372036854775807){K:q3T→Option Res}:∀(l:List vaa)(i:Nat)(s3:Int)(n:Nat),u4.drop i=l→l.length<n→vag vgb n (u0,u1,u2,s3,u4,(u4.length:Int),(i:Int)) K=vda u0 u1 u2 u4 l s3 i (fun z=>K (u0,u1,u2,z.1,u4,(u4.length:Int),z.2)):=by
 intro l
 induction l with
 |nil=>
  intro i s3 n hd hn
  have hge:=vca hd
  cases n with
  |zero=>exact absurd hn (Nat.not_lt_zero _)
  |succ n=>simp only [vag,vgb,vda,hge,decide_false,cond_false,Sum.elim_inr,Sum.elim_inl]
 |cons y l ih=>
  intro i s3 n hd hn
  obtain⟨hlt,hz,hd2,hw,hnn⟩:=vdl hd h0
  have hy:=vbq hd
  cases n with
  |zero=>exact absurd hn (Nat.not_lt_zero _)
  |succ n=>
   have ih2:=fun(s3:Int)=>ih (i+1) s3 n hd2 (Nat.lt_of_succ_lt_succ hn)
   simp only [vag,vgb,vda,hlt,hz,decide_true,cond_true,and_self,if_true,hy,hw,hnn,Sum.elim_inl,Sum.elim_inr,ih2]
theorem vy6 {u0} {u1} {u2} {u4}(h0:u4.length<9223372036854775807){K:q3T→Option Res}{s3:Int}:vag vgb Fuel (u0,u1,u2,s3,u4,(u4.length:Int),(0:Int)) K=vda u0 u1 u2 u4 u4 s3 0 (fun z=>K (u0,u1,u2,z.1,u4,(u4.length:Int),z.2)):=
 vy8 h0 u4 0 s3 Fuel rfl (vef h0)
def vw3 (a0:(List vaa))(a1:ByteArray)(a2:Int)(k:Int→Option Res):Option Res:=
 vda a0 a1 a2 a0 a0 (-1:Int) 0 (fun z22=>
  k z22.1)
theorem v2w {a0:(List vaa)}{a1:ByteArray}{a2:Int}(h0:a0.length<9223372036854775807){k:Int→Option Res}:vmw a0 a1 a2 k=vw3 a0 a1 a2 k:=by
 rw [vx3]
 simp only [vtl,vw3,(vy6 h0),Sum.elim_inl,Sum.elim_inr]
def vf6 (u0:(List vaf))(u1:(List vaf))(u2:Bool):List vaf→Nat→(((Bool×Int)⊕Int)→Option Res)→Option Res
 |[],i,k=>
  k (.inr (i:Int))
 |y::l,i,k=>
  if 0≤(i:Int)∧(i:Int)<(u1.length:Int)then
   vno y (rd (Ty.zero tRange) u1 (i:Int)) (fun y1=>
    bif (!y1)then
     k (.inl (false,(i:Int)))
    else
     vf6 u0 u1 u2 l (i+1) k)
  else none
theorem vzc {u0} {u1} {u2}(h0:u0.length<9223372036854775807){K:(q0T⊕q0T)→Option Res}:∀(l:List vaf)(i:Nat)  (n:Nat),u0.drop i=l→l.length<n→vag vgi n (u0,u1,u2,(i:Int)) K=vf6 u0 u1 u2 l  i (Sum.elim (fun z=>K (.inl (u0,u1,z.1,z.2))) (fun z=>K (.inr (u0,u1,u2,z)))):=by
 intro l
 induction l with
 |nil=>
  intro i  n hd hn
  have hge:=vca hd
  cases n with
  |zero=>exact absurd hn (Nat.not_lt_zero _)
  |succ n=>simp only [vag,vgi,vf6,hge,decide_false,cond_false,Sum.elim_inr,Sum.elim_inl]
 |cons y l ih=>
  intro i  n hd hn
  obtain⟨hlt,hz,hd2,hw,hnn⟩:=vdl hd h0
  have hy:=vbq hd
  cases n with
  |zero=>exact absurd hn (Nat.not_lt_zero _)
  |succ n=>
   have ih2:=ih (i+1)  n hd2 (Nat.lt_of_succ_lt_succ hn)
   simp only [vag,vgi,vf6,hlt,hz,decide_true,cond_true,and_self,if_true,hy,hw,hnn,Sum.elim_inl,Sum.elim_inr,ih2]
theorem vyu {u0} {u1} {u2}(h0:u0.length<9223372036854775807){K:(q0T⊕q0T)→Option Res}  : vag vgi Fuel (u0,u1,u2,(0:Int)) K=vf6 u0 u1 u2 u0  0 (Sum.elim (fun z=>K (.inl (u0,u1,z.1,z.2))) (fun z=>K (.inr (u0,u1,u2,z)))):=
 vzc h0 u0 0  Fuel rfl (vef h0)
def vxl (a0:(List vaf))(a1:(List vaf))(k:Bool→Option Res):Option Res:=
 bif ((a0.length:Int) != (a1.length:Int))then
  k false
 else
  vf6 a0 a1 false a0  0 (Sum.elim (fun z22=>
   k z22.1) (fun _=>
   k true))
theorem v2s {a0:(List vaf)}{a1:(List vaf)}(h0:a0.length<9223372036854775807){k:Bool→Option Res}:vf8 a0 a1 k=vxl a0 a1 k:=by
 rw [vyl]
 simp only [vul,vxl,(vyu h0),Sum.elim_inl,Sum.elim_inr]
def vf0 (u0:(List vaa))(u1:(List vaa))(u2:Bool):List vaa→Nat→(((Bool×Int)⊕Int)→Option Res)→Option Res
 |[],i,k=>
  k (.inr (i:Int))
 |y::l,i,k=>
  if 0≤(i:Int)∧(i:Int)<(u1.length:Int)then
   vmr y (rd (Ty.zero tVersion) u1 (i:Int)) (fun y1=>
    bif (!y1)then
     k (.inl (false,(i:Int)))
    else
     vf0 u0 u1 u2 l (i+1) k)
  else none
theorem v0d {u0} {u1} {u2}(h0:u0.length<9223372036854775807){K:(q2T⊕q2T)→Option Res}:∀(l:List vaa)(i:Nat)  (n:Nat),u0.drop i=l→l.length<n→vag vgr n (u0,u1,u2,(i:Int)) K=vf0 u0 u1 u2 l  i (Sum.elim (fun z=>K (.inl (u0,u1,z.1,z.2))) (fun z=>K (.inr (u0,u1,u2,z)))):=by
 intro l
 induction l with
 |nil=>
  intro i  n hd hn
  have hge:=vca hd
  cases n with
  |zero=>exact absurd hn (Nat.not_lt_zero _)
  |succ n=>simp only [vag,vgr,vf0,hge,decide_false,cond_false,Sum.elim_inr,Sum.elim_inl]
 |cons y l ih=>
  intro i  n hd hn
  obtain⟨hlt,hz,hd2,hw,hnn⟩:=vdl hd h0
  have hy:=vbq hd
  cases n with
  |zero=>exact absurd hn (Nat.not_lt_zero _)
  |succ n=>
   have ih2:=ih (i+1)  n hd2 (Nat.lt_of_succ_lt_succ hn)
   simp only [vag,vgr,vf0,hlt,hz,decide_true,cond_true,and_self,if_true,hy,hw,hnn,Sum.elim_inl,Sum.elim_inr,ih2]
theorem vzv {u0} {u1} {u2}(h0:u0.length<9223372036854775807){K:(q2T⊕q2T)→Option Res}  : vag vgr Fuel (u0,u1,u2,(0:Int)) K=vf0 u0 u1 u2 u0  0 (Sum.elim (fun z=>K (.inl (u0,u1,z.1,z.2))) (fun z=>K (.inr (u0,u1,u2,z)))):=
 v0d h0 u0 0  Fuel rfl (vef h0)
def vwg (a0:(List vaa))(a1:(List vaa))(k:Bool→Option Res):Option Res:=
 bif ((a0.length:Int) != (a1.length:Int))then
  k false
 else
  vf0 a0 a1 false a0  0 (Sum.elim (fun z22=>
   k z22.1) (fun _=>
   k true))
theorem v27 {a0:(List vaa)}{a1:(List vaa)}(h0:a0.length<9223372036854775807){k:Bool→Option Res}:vln a0 a1 k=vwg a0 a1 k:=by
 rw [vwm]
 simp only [vuy,vwg,(vzv h0),Sum.elim_inl,Sum.elim_inr]
def vfl (u0:(List vaf))(u2:Int):List vaf→Int→Nat→(((Int×Int×Int)⊕(Int×Int))→Option Res)→Option Res
 |[],s1,i,k=>
  k (.inr (s1,(i:Int)))
 |y::l,s1,i,k=>
  vdz s1 (fun y1=>
   bif (!(va9 (y.1) y1))then
    k (.inl (s1,(-1:Int),(i:Int)))
   else
    vdz (IntKind.wrap .i64 (s1+(1:Int))) (fun y2=>
     bif (!(va9 (y.2) y2))then
      k (.inl ((IntKind.wrap .i64 (s1+(1:Int))),(-1:Int),(i:Int)))
     else
      vfl u0 u2 l (IntKind.wrap .i64 ((IntKind.wrap .i64 (s1+(1:Int)))+(1:Int))) (i+1) k))
theorem vzx {u0} {u2}(h0:u0.length<9223372036854775807){K:(q1T⊕q1T)→Option Res}:∀(l:List vaf)(i:Nat)(s1:Int)(n:Nat),u0.drop i=l→l.length<n→vag vf4 n (u0,s1,u2,(i:Int)) K=vfl u0 u2 l s1 i (Sum.elim (fun z=>K (.inl (u0,z.1,z.2.1,z.2.2))) (fun z=>K (.inr (u0,z.1,u2,z.2)))):=by
 intro l
 induction l with
 |nil=>
  intro i s1 n hd hn
  have hge:=vca hd
  cases n with
  |zero=>exact absurd hn (Nat.not_lt_zero _)
  |succ n=>simp only [vag,vf4,vfl,hge,decide_false,cond_false,Sum.elim_inr,Sum.elim_inl]
 |cons y l ih=>
  intro i s1 n hd hn
  obtain⟨hlt,hz,hd2,hw,hnn⟩:=vdl hd h0
  have hy:=vbq hd
  cases n with
  |zero=>exact absurd hn (Nat.not_lt_zero _)
  |succ n=>
   have ih2:=fun(s1:Int)=>ih (i+1) s1 n hd2 (Nat.lt_of_succ_lt_succ hn)
   simp only [vag,vf4,vfl,hlt,hz,decide_true,cond_true,and_self,if_true,hy,hw,hnn,Sum.elim_inl,Sum.elim_inr,ih2]
theorem vz0 {u0} {u2}(h0:u0.length<9223372036854775807){K:(q1T⊕q1T)→Option Res}{s1:Int}:vag vf4 Fuel (u0,s1,u2,(0:Int)) K=vfl u0 u2 u0 s1 0 (Sum.elim (fun z=>K (.inl (u0,z.1,z.2.1,z.2.2))) (fun z=>K (.inr (u0,z.1,u2,z.2)))):=
 vzx h0 u0 0 s1 Fuel rfl (vef h0)
def vw2 (a0:(List vaf))(a1:Int)(k:Int→Option Res):Option Res:=
 vfl a0 (0:Int) a0 a1 0 (Sum.elim (fun z22=>
  k z22.2.1) (fun z23=>
  k z23.1))
theorem v3n {a0:(List vaf)}{a1:Int}(h0:a0.length<9223372036854775807){k:Int→Option Res}:viv a0 a1 k=vw2 a0 a1 k:=by
 rw [vwo]
 simp only [vtx,vw2,(vz0 h0),Sum.elim_inl,Sum.elim_inr]
def vcy (u0:(List vaa))(u1:Int)(u2:Bool)(u3:ByteArray)(u4:ByteArray)(u5:(List vaf))(u6:(List vaf))(k:(Bool×(List vaf))→Option Res):Option Res:=
  vml (1:Int) u6 (fun y1=>
   viv y1.2 (1:Int) (fun y2=>
    bif (decide (y2<(0:Int)))then
     k (false,y1.2)
    else
     bif (y2 != y1.1)then
      k (false,y1.2)
     else
      ve1 u0 (fun y3=>
       vhp (u3,u4) (fun y4=>
        vju y3 y4 u1 (fun y5=>
         vf8 y5 u5 (fun y6=>
          bif (!y6)then
           k (false,y1.2)
          else
           viv y1.2 (1:Int) (fun y7=>
            bif (decide (y7<(0:Int)))then
             k (false,y1.2)
            else
             bif (y7 != y1.1)then
              k (false,y1.2)
             else
              k (true,y1.2))))))))
theorem vmi {u0} {u1} {u2} {u3} {u4} {u5} {u6}  {K:q6T→Option Res}:vb0 (u0,u1,u2,u3,u4,u5,u6) K=vcy u0 u1 u2 u3 u4 u5 u6 (fun z=>K (u0,u1,z.1,u3,u4,u5,z.2)):=by
 simp only [vb0,vcy,Sum.elim_inl,Sum.elim_inr]
def vwn (a0:(List vaa))(a1:vaf)(a2:Int)(k:Bool→Option Res):Option Res:=
 vng a0 (1048576:Int) (fun y22=>
  bif (decide (y22<(0:Int)))then
   k true
  else
   vnn a1 y22 (fun y23=>
    bif (decide (y23<(0:Int)))then
     k true
    else
     ve1 a0 (fun y24=>
      vhp a1 (fun y25=>
       vm3 y24 y25 a2 (fun y26=>
        ve1 a0 (fun y27=>
         vhp a1 (fun y28=>
          vju y27 y28 a2 (fun y29=>
           vf8 y29 y26 (fun y30=>
            bif (!y30)then
             k false
            else
             ve1 a0 (fun y31=>
              vln y27 y31 (fun y32=>
               bif (!y32)then
                k false
               else
                vn2 (1:Int) y27 (fun y33=>
                 bif (decide (y33.1<(0:Int)))then
                  k false
                 else
                  vf8 y29 y26 (fun y34=>
                   bif (!y34)then
                    k false
                   else
                    vcy a0 a2 false a1.1 a1.2 y26 y29 (fun z35=>
                     k z35.1))))))))))))))
theorem v3f {a0:(List vaa)}{a1:vaf}{a2:Int}  {k:Bool→Option Res}:vpt a0 a1 a2 k=vwn a0 a1 a2 k:=by
 rw [vyh]
 simp only [vt6,vwn,vmi,Sum.elim_inl,Sum.elim_inr]
end
end Go.VE
