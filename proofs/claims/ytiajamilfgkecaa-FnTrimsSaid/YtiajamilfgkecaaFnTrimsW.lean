/- Loops told as recursions over what is left; written by gen.py. -/
import Derived.Test.YtiajamilfgkecaaFnTrimsN
import Derived.Test.YtiajamilfgkecaaP1
namespace Go.VE
noncomputable section
set_option linter.unusedVariables false
set_option linter.unusedSimpArgs false
set_option maxRecDepth 100000
def vfo (u0:(List va3))(u2:ByteArray)(u3:ByteArray)(u4:Bool):List va3→(List va3)→Nat→((Int×(List va3))→Option Res)→Option Res
 |[],s5,i,k=>
  k ((i:Int),s5)
 |y::l,s5,i,k=>
  bif (vab (y.1) u2)then
   if s5.length+[y].length≤VE.maxLen then
    vfo u0 u2 u3 u4 l (s5++[y]) (i+1) k
   else none
  else
   vfo u0 u2 u3 u4 l s5 (i+1) k
theorem v8e {u0} {u2} {u3} {u4}(h0:u0.length<9223372036854775807){K:q22T→Option Res}:∀(l:List va3)(i:Nat)(s5:(List va3))(n:Nat),u0.drop i=l→l.length<n→vae vhw n (u0,(i:Int),u2,u3,u4,s5) K=vfo u0 u2 u3 u4 l s5 i (fun z=>K (u0,z.1,u2,u3,u4,z.2)):=by
 intro l
 induction l with
 |nil=>
  intro i s5 n hd hn
  have hge:=va8 hd
  cases n with
  |zero=>exact absurd hn (Nat.not_lt_zero _)
  |succ n=>simp only [vae,vhw,vfo,hge,decide_false,cond_false,Sum.elim_inr,Sum.elim_inl]
 |cons y l ih=>
  intro i s5 n hd hn
  obtain⟨hlt,hz,hd2,hw,hnn⟩:=vbu hd h0
  have hy:=vap hd
  cases n with
  |zero=>exact absurd hn (Nat.not_lt_zero _)
  |succ n=>
   have ih2:=fun(s5:(List va3))=>ih (i+1) s5 n hd2 (Nat.lt_of_succ_lt_succ hn)
   simp only [vae,vhw,vfo,hlt,hz,decide_true,cond_true,and_self,if_true,hy,hw,hnn,Sum.elim_inl,Sum.elim_inr,ih2]
theorem v9h {u0} {u2} {u3} {u4}(h0:u0.length<9223372036854775807){K:q22T→Option Res}{s5:(List va3)}:vae vhw Fuel (u0,(0:Int),u2,u3,u4,s5) K=vfo u0 u2 u3 u4 u0 s5 0 (fun z=>K (u0,z.1,u2,u3,u4,z.2)):=
 v8e h0 u0 0 s5 Fuel rfl (vb1 h0)
def vfn (u0:(List va3))(u2:ByteArray)(u3:ByteArray)(u4:Bool):List va3→(List va3)→Nat→((Int×(List va3))→Option Res)→Option Res
 |[],s5,i,k=>
  k ((i:Int),s5)
 |y::l,s5,i,k=>
  bif (!((vab (y.1) u2)||(van (y.1) u2)))then
   if s5.length+[y].length≤VE.maxLen then
    vfn u0 u2 u3 u4 l (s5++[y]) (i+1) k
   else none
  else
   vfn u0 u2 u3 u4 l s5 (i+1) k
theorem v8h {u0} {u2} {u3} {u4}(h0:u0.length<9223372036854775807){K:q22T→Option Res}:∀(l:List va3)(i:Nat)(s5:(List va3))(n:Nat),u0.drop i=l→l.length<n→vae vhz n (u0,(i:Int),u2,u3,u4,s5) K=vfn u0 u2 u3 u4 l s5 i (fun z=>K (u0,z.1,u2,u3,u4,z.2)):=by
 intro l
 induction l with
 |nil=>
  intro i s5 n hd hn
  have hge:=va8 hd
  cases n with
  |zero=>exact absurd hn (Nat.not_lt_zero _)
  |succ n=>simp only [vae,vhz,vfn,hge,decide_false,cond_false,Sum.elim_inr,Sum.elim_inl]
 |cons y l ih=>
  intro i s5 n hd hn
  obtain⟨hlt,hz,hd2,hw,hnn⟩:=vbu hd h0
  have hy:=vap hd
  cases n with
  |zero=>exact absurd hn (Nat.not_lt_zero _)
  |succ n=>
   have ih2:=fun(s5:(List va3))=>ih (i+1) s5 n hd2 (Nat.lt_of_succ_lt_succ hn)
   simp only [vae,vhz,vfn,hlt,hz,decide_true,cond_true,and_self,if_true,hy,hw,hnn,Sum.elim_inl,Sum.elim_inr,ih2]
theorem v8z {u0} {u2} {u3} {u4}(h0:u0.length<9223372036854775807){K:q22T→Option Res}{s5:(List va3)}:vae vhz Fuel (u0,(0:Int),u2,u3,u4,s5) K=vfn u0 u2 u3 u4 u0 s5 0 (fun z=>K (u0,z.1,u2,u3,u4,z.2)):=
 v8h h0 u0 0 s5 Fuel rfl (vb1 h0)
def v3n (a0:(List va3))(a1:va3)(k:(List va3)→Option Res):Option Res:=
 vfo a0 a1.1 a1.2.1 a1.2.2 a0 ([]:List va3) 0 (fun z27=>
  if z27.2.length+[a1].length≤VE.maxLen then
   vfn a0 a1.1 a1.2.1 a1.2.2 a0 (z27.2++[a1]) 0 (fun z28=>
    k z28.2)
  else none)
theorem wd7 {a0:(List va3)}{a1:va3}(h0:a0.length<9223372036854775807){k:(List va3)→Option Res}:vo2 a0 a1 k=v3n a0 a1 k:=by
 rw [v5a]
 simp only [vz8,v3n,(v8z h0),(v9h h0),Sum.elim_inl,Sum.elim_inr]
def vd7 (u0:(List vaa))(u1:ByteArray)(u2:Int)(u4:(List vaa)):List vaa→Int→Nat→((Int×Int)→Option Res)→Option Res
 |[],s3,i,k=>
  k (s3,(i:Int))
 |y::l,s3,i,k=>
  bif (van (y.1) u1)then
   bif (decide (y.2.2.2≤u2))then
    bif (decide (s3<(0:Int)))then
     vd7 u0 u1 u2 u4 l (i:Int) (i+1) k
    else
     if 0≤s3∧s3<(u0.length:Int)then
      bif (decide (y.2.2.2>(rd (Ty.zero tVersion) u0 s3).2.2.2))then
       vd7 u0 u1 u2 u4 l (i:Int) (i+1) k
      else
       vd7 u0 u1 u2 u4 l s3 (i+1) k
     else none
   else
    vd7 u0 u1 u2 u4 l s3 (i+1) k
  else
   vd7 u0 u1 u2 u4 l s3 (i+1) k
theorem v87 {u0} {u1} {u2} {u4}(h0:u4.length<9223372036854775807){K:q11T→Option Res}:∀(l:List vaa)(i:Nat)(s3:Int)(n:Nat),u4.drop i=l→l.length<n→vae vhs n (u0,u1,u2,s3,u4,(u4.length:Int),(i:Int)) K=vd7 u0 u1 u2 u4 l s3 i (fun z=>K (u0,u1,u2,z.1,u4,(u4.length:Int),z.2)):=by
 intro l
 induction l with
 |nil=>
  intro i s3 n hd hn
  have hge:=va8 hd
  cases n with
  |zero=>exact absurd hn (Nat.not_lt_zero _)
  |succ n=>simp only [vae,vhs,vd7,hge,decide_false,cond_false,Sum.elim_inr,Sum.elim_inl]
 |cons y l ih=>
  intro i s3 n hd hn
  obtain⟨hlt,hz,hd2,hw,hnn⟩:=vbu hd h0
  have hy:=vap hd
  cases n with
  |zero=>exact absurd hn (Nat.not_lt_zero _)
  |succ n=>
   have ih2:=fun(s3:Int)=>ih (i+1) s3 n hd2 (Nat.lt_of_succ_lt_succ hn)
   simp only [vae,vhs,vd7,hlt,hz,decide_true,cond_true,and_self,if_true,hy,hw,hnn,Sum.elim_inl,Sum.elim_inr,ih2]
theorem v9w {u0} {u1} {u2} {u4}(h0:u4.length<9223372036854775807){K:q11T→Option Res}{s3:Int}:vae vhs Fuel (u0,u1,u2,s3,u4,(u4.length:Int),(0:Int)) K=vd7 u0 u1 u2 u4 u4 s3 0 (fun z=>K (u0,u1,u2,z.1,u4,(u4.length:Int),z.2)):=
 v87 h0 u4 0 s3 Fuel rfl (vb1 h0)
def v24 (a0:(List vaa))(a1:ByteArray)(a2:Int)(k:Int→Option Res):Option Res:=
 vd7 a0 a1 a2 a0 a0 (-1:Int) 0 (fun z27=>
  k z27.1)
theorem wc7 {a0:(List vaa)}{a1:ByteArray}{a2:Int}(h0:a0.length<9223372036854775807){k:Int→Option Res}:vmn a0 a1 a2 k=v24 a0 a1 a2 k:=by
 rw [v55]
 simp only [vz7,v24,(v9w h0),Sum.elim_inl,Sum.elim_inr]
def vgv (u0:ByteArray)(u4:(List vaa)):List vaa→Int→Nat→((Int×Int)→Option Res)→Option Res
 |[],s1,i,k=>
  k (s1,(i:Int))
 |y::l,s1,i,k=>
  bif (van (y.1) u0)then
   vgv u0 u4 l (IntKind.wrap .i64 (s1+(1:Int))) (i+1) k
  else
   vgv u0 u4 l s1 (i+1) k
theorem v9r {u0} {u4}(h0:u4.length<9223372036854775807){K:q30T→Option Res}:∀(l:List vaa)(i:Nat)(s1:Int)(n:Nat),u4.drop i=l→l.length<n→vae vh1 n (u0,s1,(u4.length:Int),(i:Int),u4) K=vgv u0 u4 l s1 i (fun z=>K (u0,z.1,(u4.length:Int),z.2,u4)):=by
 intro l
 induction l with
 |nil=>
  intro i s1 n hd hn
  have hge:=va8 hd
  cases n with
  |zero=>exact absurd hn (Nat.not_lt_zero _)
  |succ n=>simp only [vae,vh1,vgv,hge,decide_false,cond_false,Sum.elim_inr,Sum.elim_inl]
 |cons y l ih=>
  intro i s1 n hd hn
  obtain⟨hlt,hz,hd2,hw,hnn⟩:=vbu hd h0
  have hy:=vap hd
  cases n with
  |zero=>exact absurd hn (Nat.not_lt_zero _)
  |succ n=>
   have ih2:=fun(s1:Int)=>ih (i+1) s1 n hd2 (Nat.lt_of_succ_lt_succ hn)
   simp only [vae,vh1,vgv,hlt,hz,decide_true,cond_true,and_self,if_true,hy,hw,hnn,Sum.elim_inl,Sum.elim_inr,ih2]
theorem v7t {u0} {u4}(h0:u4.length<9223372036854775807){K:q30T→Option Res}{s1:Int}:vae vh1 Fuel (u0,s1,(u4.length:Int),(0:Int),u4) K=vgv u0 u4 u4 s1 0 (fun z=>K (u0,z.1,(u4.length:Int),z.2,u4)):=
 v9r h0 u4 0 s1 Fuel rfl (vb1 h0)
def v3f (a0:ByteArray)(a1:(List vaa))(k:(Int×(List vaa))→Option Res):Option Res:=
 vgv a0 a1 a1 (0:Int) 0 (fun z27=>
  k (z27.1,a1))
theorem wex {a0:ByteArray}{a1:(List vaa)}(h0:a1.length<9223372036854775807){k:(Int×(List vaa))→Option Res}:vrt a0 a1 k=v3f a0 a1 k:=by
 rw [v54]
 simp only [v0o,v3f,(v7t h0),Sum.elim_inl,Sum.elim_inr]
def vcl (u0:(List vaa))(u1:Int)(u2:(List vaa))(u3:Int)(u4:Int)(u5:Bool)(u6:ByteArray)(u7:ByteArray)(u8:Bool)(u9:Int)(u10:(List vaa))(k:(List vaa)→Option Res):Option Res:=
  bif u5 then
   if u10.length+[(u6,(u7,(u8,u9)))].length≤VE.maxLen then
    k (u10++[(u6,(u7,(u8,u9)))])
   else none
  else
   k u10
theorem vi0 {u0} {u1} {u2} {u3} {u4} {u5} {u6} {u7} {u8} {u9} {u10}  {K:q14T→Option Res}:vb4 (u0,u1,u2,u3,u4,u5,u6,u7,u8,u9,u10) K=vcl u0 u1 u2 u3 u4 u5 u6 u7 u8 u9 u10 (fun z=>K (u0,u1,u2,u3,u4,u5,u6,u7,u8,u9,z)):=by
 simp only [vb4,vcl,Sum.elim_inl,Sum.elim_inr]
def vfr (u0:(List vaa))(u1:Int)(u2:(List vaa)):List vaa→(List vaa)→Nat→((Int×(List vaa))→Option Res)→Option Res
 |[],s5,i,k=>
  k ((i:Int),s5)
 |y::l,s5,i,k=>
  bif (decide (y.2.2.2>u1))then
   vcl u0 u1 u2 (u2.length:Int) (i:Int) true y.1 y.2.1 y.2.2.1 y.2.2.2 s5 (fun z1=>
    vfr u0 u1 u2 l z1 (i+1) k)
  else
   vmn u0 y.1 u1 (fun y2=>
    vcl u0 u1 u2 (u2.length:Int) (i:Int) (y2==(i:Int)) y.1 y.2.1 y.2.2.1 y.2.2.2 s5 (fun z3=>
     vfr u0 u1 u2 l z3 (i+1) k))
theorem v62 {u0} {u1} {u2}(h0:u2.length<9223372036854775807){K:q13T→Option Res}:∀(l:List vaa)(i:Nat)(s5:(List vaa))(n:Nat),u2.drop i=l→l.length<n→vae vht n (u0,u1,u2,(u2.length:Int),(i:Int),s5) K=vfr u0 u1 u2 l s5 i (fun z=>K (u0,u1,u2,(u2.length:Int),z.1,z.2)):=by
 intro l
 induction l with
 |nil=>
  intro i s5 n hd hn
  have hge:=va8 hd
  cases n with
  |zero=>exact absurd hn (Nat.not_lt_zero _)
  |succ n=>simp only [vae,vht,vfr,hge,decide_false,cond_false,Sum.elim_inr,Sum.elim_inl,vi0]
 |cons y l ih=>
  intro i s5 n hd hn
  obtain⟨hlt,hz,hd2,hw,hnn⟩:=vbu hd h0
  have hy:=vap hd
  cases n with
  |zero=>exact absurd hn (Nat.not_lt_zero _)
  |succ n=>
   have ih2:=fun(s5:(List vaa))=>ih (i+1) s5 n hd2 (Nat.lt_of_succ_lt_succ hn)
   simp only [vae,vht,vfr,hlt,hz,decide_true,cond_true,and_self,if_true,hy,hw,hnn,Sum.elim_inl,Sum.elim_inr,ih2,vi0]
theorem v7x {u0} {u1} {u2}(h0:u2.length<9223372036854775807){K:q13T→Option Res}{s5:(List vaa)}:vae vht Fuel (u0,u1,u2,(u2.length:Int),(0:Int),s5) K=vfr u0 u1 u2 u2 s5 0 (fun z=>K (u0,u1,u2,(u2.length:Int),z.1,z.2)):=
 v62 h0 u2 0 s5 Fuel rfl (vb1 h0)
def v20 (a0:(List vaa))(a1:Int)(k:(List vaa)→Option Res):Option Res:=
 vfr a0 a1 a0 a0 ([]:List vaa) 0 (fun z27=>
  vae vil Fuel (a1,(z27.2.length:Int),(0:Int),([]:List vaa),z27.2) (fun z28=>
   k z28.2.2.2.1))
theorem wd6 {a0:(List vaa)}{a1:Int}(h0:a0.length<9223372036854775807){k:(List vaa)→Option Res}:vhp a0 a1 k=v20 a0 a1 k:=by
 rw [v40]
 simp only [v0p,v20,(v7x h0),Sum.elim_inl,Sum.elim_inr]
def vgk (u0:(List vaa)):List vaa→(List ByteArray)→Nat→((Int×(List ByteArray))→Option Res)→Option Res
 |[],s3,i,k=>
  k ((i:Int),s3)
 |y::l,s3,i,k=>
  if s3.length+[y.1].length≤VE.maxLen then
   vgk u0 l (s3++[y.1]) (i+1) k
  else none
theorem v83 {u0}(h0:u0.length<9223372036854775807){K:q17T→Option Res}:∀(l:List vaa)(i:Nat)(s3:(List ByteArray))(n:Nat),u0.drop i=l→l.length<n→vae via n (u0,(u0.length:Int),(i:Int),s3) K=vgk u0 l s3 i (fun z=>K (u0,(u0.length:Int),z.1,z.2)):=by
 intro l
 induction l with
 |nil=>
  intro i s3 n hd hn
  have hge:=va8 hd
  cases n with
  |zero=>exact absurd hn (Nat.not_lt_zero _)
  |succ n=>simp only [vae,via,vgk,hge,decide_false,cond_false,Sum.elim_inr,Sum.elim_inl]
 |cons y l ih=>
  intro i s3 n hd hn
  obtain⟨hlt,hz,hd2,hw,hnn⟩:=vbu hd h0
  have hy:=vap hd
  cases n with
  |zero=>exact absurd hn (Nat.not_lt_zero _)
  |succ n=>
   have ih2:=fun(s3:(List ByteArray))=>ih (i+1) s3 n hd2 (Nat.lt_of_succ_lt_succ hn)
   simp only [vae,via,vgk,hlt,hz,decide_true,cond_true,and_self,if_true,hy,hw,hnn,Sum.elim_inl,Sum.elim_inr,ih2]
theorem v7k {u0}(h0:u0.length<9223372036854775807){K:q17T→Option Res}{s3:(List ByteArray)}:vae via Fuel (u0,(u0.length:Int),(0:Int),s3) K=vgk u0 u0 s3 0 (fun z=>K (u0,(u0.length:Int),z.1,z.2)):=
 v83 h0 u0 0 s3 Fuel rfl (vb1 h0)
def v3a (a0:(List vaa))(k:(List ByteArray)→Option Res):Option Res:=
 vgk a0 a0 ([]:List ByteArray) 0 (fun z27=>
  vro z27.2 (fun y28=>
   vn4 y28 (Sum.elim (fun y29=>
    k y29) (fun y30=>
    k y30))))
theorem we6 {a0:(List vaa)}(h0:a0.length<9223372036854775807){k:(List ByteArray)→Option Res}:vrf a0 k=v3a a0 k:=by
 rw [v50]
 simp only [vyi,v3a,(v7k h0),Sum.elim_inl,Sum.elim_inr]
def vio (u0:(List vam))(u1:(List vam))(u2:Bool):List vam→Nat→(((Bool×Int)⊕Int)→Option Res)→Option Res
 |[],i,k=>
  k (.inr (i:Int))
 |y::l,i,k=>
  if 0≤(i:Int)∧(i:Int)<(u1.length:Int)then
   bif (!(Ty.eqB tRange y (rd (Ty.zero tRange) u1 (i:Int))))then
    k (.inl (false,(i:Int)))
   else
    vio u0 u1 u2 l (i+1) k
  else none
theorem v8a {u0} {u1} {u2}(h0:u0.length<9223372036854775807){K:(q6T⊕q6T)→Option Res}:∀(l:List vam)(i:Nat)  (n:Nat),u0.drop i=l→l.length<n→vae vit n (u0,u1,u2,(i:Int)) K=vio u0 u1 u2 l  i (Sum.elim (fun z=>K (.inl (u0,u1,z.1,z.2))) (fun z=>K (.inr (u0,u1,u2,z)))):=by
 intro l
 induction l with
 |nil=>
  intro i  n hd hn
  have hge:=va8 hd
  cases n with
  |zero=>exact absurd hn (Nat.not_lt_zero _)
  |succ n=>simp only [vae,vit,vio,hge,decide_false,cond_false,Sum.elim_inr,Sum.elim_inl]
 |cons y l ih=>
  intro i  n hd hn
  obtain⟨hlt,hz,hd2,hw,hnn⟩:=vbu hd h0
  have hy:=vap hd
  cases n with
  |zero=>exact absurd hn (Nat.not_lt_zero _)
  |succ n=>
   have ih2:=ih (i+1)  n hd2 (Nat.lt_of_succ_lt_succ hn)
   simp only [vae,vit,vio,hlt,hz,decide_true,cond_true,and_self,if_true,hy,hw,hnn,Sum.elim_inl,Sum.elim_inr,ih2]
theorem v70 {u0} {u1} {u2}(h0:u0.length<9223372036854775807){K:(q6T⊕q6T)→Option Res}  : vae vit Fuel (u0,u1,u2,(0:Int)) K=vio u0 u1 u2 u0  0 (Sum.elim (fun z=>K (.inl (u0,u1,z.1,z.2))) (fun z=>K (.inr (u0,u1,u2,z)))):=
 v8a h0 u0 0  Fuel rfl (vb1 h0)
def v3j (a0:(List vam))(a1:(List vam))(k:Bool→Option Res):Option Res:=
 bif ((a0.length:Int) != (a1.length:Int))then
  k false
 else
  vio a0 a1 false a0  0 (Sum.elim (fun z27=>
   k z27.1) (fun _=>
   k true))
theorem we2 {a0:(List vam)}{a1:(List vam)}(h0:a0.length<9223372036854775807){k:Bool→Option Res}:vml a0 a1 k=v3j a0 a1 k:=by
 rw [v4c]
 simp only [v0d,v3j,(v70 h0),Sum.elim_inl,Sum.elim_inr]
def vea (u0:(List vaa))(u1:ByteArray)(u2:Int):List vaa→Int→Nat→((Int×Int)→Option Res)→Option Res
 |[],s3,i,k=>
  k (s3,(i:Int))
 |y::l,s3,i,k=>
  bif (van (y.1) u1)then
   bif (decide (y.2.2.2≤u2))then
    bif (decide (s3<(0:Int)))then
     vea u0 u1 u2 l (i:Int) (i+1) k
    else
     if 0≤s3∧s3<(u0.length:Int)then
      bif (decide (y.2.2.2>(rd (Ty.zero tVersion) u0 s3).2.2.2))then
       vea u0 u1 u2 l (i:Int) (i+1) k
      else
       vea u0 u1 u2 l s3 (i+1) k
     else none
   else
    vea u0 u1 u2 l s3 (i+1) k
  else
   vea u0 u1 u2 l s3 (i+1) k
theorem v8u {u0} {u1} {u2}(h0:u0.length<9223372036854775807){K:q12T→Option Res}:∀(l:List vaa)(i:Nat)(s3:Int)(n:Nat),u0.drop i=l→l.length<n→vae vid n (u0,u1,u2,s3,(i:Int)) K=vea u0 u1 u2 l s3 i (fun z=>K (u0,u1,u2,z.1,z.2)):=by
 intro l
 induction l with
 |nil=>
  intro i s3 n hd hn
  have hge:=va8 hd
  cases n with
  |zero=>exact absurd hn (Nat.not_lt_zero _)
  |succ n=>simp only [vae,vid,vea,hge,decide_false,cond_false,Sum.elim_inr,Sum.elim_inl]
 |cons y l ih=>
  intro i s3 n hd hn
  obtain⟨hlt,hz,hd2,hw,hnn⟩:=vbu hd h0
  have hy:=vap hd
  cases n with
  |zero=>exact absurd hn (Nat.not_lt_zero _)
  |succ n=>
   have ih2:=fun(s3:Int)=>ih (i+1) s3 n hd2 (Nat.lt_of_succ_lt_succ hn)
   simp only [vae,vid,vea,hlt,hz,decide_true,cond_true,and_self,if_true,hy,hw,hnn,Sum.elim_inl,Sum.elim_inr,ih2]
theorem v8b {u0} {u1} {u2}(h0:u0.length<9223372036854775807){K:q12T→Option Res}{s3:Int}:vae vid Fuel (u0,u1,u2,s3,(0:Int)) K=vea u0 u1 u2 u0 s3 0 (fun z=>K (u0,u1,u2,z.1,z.2)):=
 v8u h0 u0 0 s3 Fuel rfl (vb1 h0)
def v3k (a0:(List vaa))(a1:ByteArray)(a2:Int)(k:Int→Option Res):Option Res:=
 vea a0 a1 a2 a0 (-1:Int) 0 (fun z27=>
  k z27.1)
theorem wc8 {a0:(List vaa)}{a1:ByteArray}{a2:Int}(h0:a0.length<9223372036854775807){k:Int→Option Res}:vmj a0 a1 a2 k=v3k a0 a1 a2 k:=by
 rw [v5q]
 simp only [v0z,v3k,(v8b h0),Sum.elim_inl,Sum.elim_inr]
def vcm (u0:(List vaa))(u1:Int)(u2:Int)(u3:Bool)(u4:(List vaa))(k:(List vaa)→Option Res):Option Res:=
  bif u3 then
   if 0≤u2∧u2<(u0.length:Int)then
    if u4.length+[(rd (Ty.zero tVersion) u0 u2)].length≤VE.maxLen then
     k (u4++[(rd (Ty.zero tVersion) u0 u2)])
    else none
   else none
  else
   k u4
theorem vhy {u0} {u1} {u2} {u3} {u4}  {K:q20T→Option Res}:vb2 (u0,u1,u2,u3,u4) K=vcm u0 u1 u2 u3 u4 (fun z=>K (u0,u1,u2,u3,z)):=by
 simp only [vb2,vcm,Sum.elim_inl,Sum.elim_inr]
def vfs (u0:(List vaa))(u1:Int):List vaa→(List vaa)→Nat→((Int×(List vaa))→Option Res)→Option Res
 |[],s3,i,k=>
  k ((i:Int),s3)
 |y::l,s3,i,k=>
  vmj u0 y.1 u1 (fun y1=>
   bif (decide (y.2.2.2>u1))then
    vcm u0 u1 (i:Int) true s3 (fun z2=>
     vfs u0 u1 l z2 (i+1) k)
   else
    vcm u0 u1 (i:Int) (y1==(i:Int)) s3 (fun z3=>
     vfs u0 u1 l z3 (i+1) k))
theorem v6v {u0} {u1}(h0:u0.length<9223372036854775807){K:q19T→Option Res}:∀(l:List vaa)(i:Nat)(s3:(List vaa))(n:Nat),u0.drop i=l→l.length<n→vae vi1 n (u0,u1,(i:Int),s3) K=vfs u0 u1 l s3 i (fun z=>K (u0,u1,z.1,z.2)):=by
 intro l
 induction l with
 |nil=>
  intro i s3 n hd hn
  have hge:=va8 hd
  cases n with
  |zero=>exact absurd hn (Nat.not_lt_zero _)
  |succ n=>simp only [vae,vi1,vfs,hge,decide_false,cond_false,Sum.elim_inr,Sum.elim_inl,vhy]
 |cons y l ih=>
  intro i s3 n hd hn
  obtain⟨hlt,hz,hd2,hw,hnn⟩:=vbu hd h0
  have hy:=vap hd
  cases n with
  |zero=>exact absurd hn (Nat.not_lt_zero _)
  |succ n=>
   have ih2:=fun(s3:(List vaa))=>ih (i+1) s3 n hd2 (Nat.lt_of_succ_lt_succ hn)
   simp only [vae,vi1,vfs,hlt,hz,decide_true,cond_true,and_self,if_true,hy,hw,hnn,Sum.elim_inl,Sum.elim_inr,ih2,vhy]
theorem v64 {u0} {u1}(h0:u0.length<9223372036854775807){K:q19T→Option Res}{s3:(List vaa)}:vae vi1 Fuel (u0,u1,(0:Int),s3) K=vfs u0 u1 u0 s3 0 (fun z=>K (u0,u1,z.1,z.2)):=
 v6v h0 u0 0 s3 Fuel rfl (vb1 h0)
def vb6 (u0:Int)(u1:Int)(u2:Bool)(u3:(List vaa))(u4:(List vaa))(k:(List vaa)→Option Res):Option Res:=
  bif u2 then
   if 0≤u1∧u1<(u3.length:Int)then
    if u4.length+[(u3.getD u1.toNat (Ty.zero tVersion))].length≤VE.maxLen then
     k (u4++[(u3.getD u1.toNat (Ty.zero tVersion))])
    else none
   else none
  else
   k u4
theorem vho {u0} {u1} {u2} {u3} {u4}  {K:q38T→Option Res}:vbq (u0,u1,u2,u3,u4) K=vb6 u0 u1 u2 u3 u4 (fun z=>K (u0,u1,u2,u3,z)):=by
 simp only [vbq,vb6,Sum.elim_inl,Sum.elim_inr]
def vgn (u0:Int)(u1:Int)(u4:(List vaa))(u5:(List vaa)):List vaa→Int→Nat→((Int×Int)→Option Res)→Option Res
 |[],s2,i,k=>
  k (s2,(i:Int))
 |y::l,s2,i,k=>
  if 0≤u1∧u1<(u4.length:Int)then
   bif (van (y.1) ((u4.getD u1.toNat (Ty.zero tVersion)).1))then
    vgn u0 u1 u4 u5 l (IntKind.wrap .i64 (s2+(1:Int))) (i+1) k
   else
    vgn u0 u1 u4 u5 l s2 (i+1) k
  else none
theorem v9c {u0} {u1} {u4} {u5}(h0:u4.length<9223372036854775807){K:q40T→Option Res}:∀(l:List vaa)(i:Nat)(s2:Int)(n:Nat),u4.drop i=l→l.length<n→vae vix n (u0,u1,s2,(i:Int),u4,u5) K=vgn u0 u1 u4 u5 l s2 i (fun z=>K (u0,u1,z.1,z.2,u4,u5)):=by
 intro l
 induction l with
 |nil=>
  intro i s2 n hd hn
  have hge:=va8 hd
  cases n with
  |zero=>exact absurd hn (Nat.not_lt_zero _)
  |succ n=>simp only [vae,vix,vgn,hge,decide_false,cond_false,Sum.elim_inr,Sum.elim_inl]
 |cons y l ih=>
  intro i s2 n hd hn
  obtain⟨hlt,hz,hd2,hw,hnn⟩:=vbu hd h0
  have hy:=vap hd
  cases n with
  |zero=>exact absurd hn (Nat.not_lt_zero _)
  |succ n=>
   have ih2:=fun(s2:Int)=>ih (i+1) s2 n hd2 (Nat.lt_of_succ_lt_succ hn)
   simp only [vae,vix,vgn,hlt,hz,decide_true,cond_true,and_self,if_true,hy,hw,hnn,Sum.elim_inl,Sum.elim_inr,ih2]
theorem v0e {u0} {u1} {u4} {u5}(h0:u4.length<9223372036854775807){K:q40T→Option Res}{s2:Int}:vae vix Fuel (u0,u1,s2,(0:Int),u4,u5) K=vgn u0 u1 u4 u5 u4 s2 0 (fun z=>K (u0,u1,z.1,z.2,u4,u5)):=
 v9c h0 u4 0 s2 Fuel rfl (vb1 h0)
def vf0 (u0:Int)(u2:(List vaa)):List vaa→(List vaa)→Nat→((Int×(List vaa))→Option Res)→Option Res
 |[],s3,i,k=>
  k ((i:Int),s3)
 |y::l,s3,i,k=>
  vgn u0 (i:Int) u2 s3 u2 (0:Int) 0 (fun z1=>
   bif (!y.2.2.1)then
    vb6 u0 (i:Int) true u2 s3 (fun z2=>
     vf0 u0 u2 l z2 (i+1) k)
   else
    bif (decide (y.2.2.2>u0))then
     vb6 u0 (i:Int) true u2 s3 (fun z3=>
      vf0 u0 u2 l z3 (i+1) k)
    else
     vb6 u0 (i:Int) (decide (z1.1>(1:Int))) u2 s3 (fun z4=>
      vf0 u0 u2 l z4 (i+1) k))
theorem v8d {u0} {u2}(h0:u2.length<9223372036854775807){K:q37T→Option Res}:∀(l:List vaa)(i:Nat)(s3:(List vaa))(n:Nat),u2.drop i=l→l.length<n→vae vgo n (u0,(i:Int),u2,s3) K=vf0 u0 u2 l s3 i (fun z=>K (u0,z.1,u2,z.2)):=by
 intro l
 induction l with
 |nil=>
  intro i s3 n hd hn
  have hge:=va8 hd
  cases n with
  |zero=>exact absurd hn (Nat.not_lt_zero _)
  |succ n=>simp only [vae,vgo,vf0,hge,decide_false,cond_false,Sum.elim_inr,Sum.elim_inl,vho,(v0e h0)]
 |cons y l ih=>
  intro i s3 n hd hn
  obtain⟨hlt,hz,hd2,hw,hnn⟩:=vbu hd h0
  have hy:=vap hd
  cases n with
  |zero=>exact absurd hn (Nat.not_lt_zero _)
  |succ n=>
   have ih2:=fun(s3:(List vaa))=>ih (i+1) s3 n hd2 (Nat.lt_of_succ_lt_succ hn)
   simp only [vae,vgo,vf0,hlt,hz,decide_true,cond_true,and_self,if_true,hy,hw,hnn,Sum.elim_inl,Sum.elim_inr,ih2,vho,(v0e h0)]
theorem v7c {u0} {u2}(h0:u2.length<9223372036854775807){K:q37T→Option Res}{s3:(List vaa)}:vae vgo Fuel (u0,(0:Int),u2,s3) K=vf0 u0 u2 u2 s3 0 (fun z=>K (u0,z.1,u2,z.2)):=
 v8d h0 u2 0 s3 Fuel rfl (vb1 h0)
def v4b (a0:(List vaa))(a1:Int)(k:(List vaa)→Option Res):Option Res:=
 vfs a0 a1 a0 ([]:List vaa) 0 (fun z27=>
  vae vgo Fuel (a1,(0:Int),z27.2,([]:List vaa)) (fun z28=>
   k z28.2.2.2))
theorem wet {a0:(List vaa)}{a1:Int}(h0:a0.length<9223372036854775807){k:(List vaa)→Option Res}:vmg a0 a1 k=v4b a0 a1 k:=by
 rw [v5d]
 simp only [v0f,v4b,(v64 h0),Sum.elim_inl,Sum.elim_inr]
def vis (u0:ByteArray)(u1:Bool):List Int→Nat→(((Bool×Int)⊕Int)→Option Res)→Option Res
 |[],i,k=>
  k (.inr (i:Int))
 |y::l,i,k=>
  bif (decide (y<(97:Int)))then
   k (.inl (false,(i:Int)))
  else
   bif (decide (y>(122:Int)))then
    k (.inl (false,(i:Int)))
   else
    vis u0 u1 l (i+1) k
theorem v8q {u0} {u1}(h0:u0.size<9223372036854775807){K:((ByteArray×Bool×Int)⊕(ByteArray×Bool×Int))→Option Res}:∀(l:List Int)(i:Nat)  (n:Nat),(vc1 u0).drop i=l→l.length<n→vae vim n (u0,u1,(i:Int)) K=vis u0 u1 l  i (Sum.elim (fun z=>K (.inl (u0,z.1,z.2))) (fun z=>K (.inr (u0,u1,z)))):=by
 intro l
 induction l with
 |nil=>
  intro i  n hd hn
  have hge:=wb7 hd
  cases n with
  |zero=>exact absurd hn (Nat.not_lt_zero _)
  |succ n=>simp only [vae,vim,vis,hge,decide_false,cond_false,Sum.elim_inr,Sum.elim_inl]
 |cons y l ih=>
  intro i  n hd hn
  obtain⟨hlt,hz,hd2,hw,hnn⟩:=v86 hd h0
  have hy:=wbt hd
  cases n with
  |zero=>exact absurd hn (Nat.not_lt_zero _)
  |succ n=>
   have ih2:=ih (i+1)  n hd2 (Nat.lt_of_succ_lt_succ hn)
   simp only [vae,vim,vis,hlt,hz,decide_true,cond_true,and_self,if_true,hy,hw,hnn,Sum.elim_inl,Sum.elim_inr,ih2]
theorem v7u {u0} {u1}(h0:u0.size<9223372036854775807){K:((ByteArray×Bool×Int)⊕(ByteArray×Bool×Int))→Option Res}  : vae vim Fuel (u0,u1,(0:Int)) K=vis u0 u1 (vc1 u0)  0 (Sum.elim (fun z=>K (.inl (u0,z.1,z.2))) (fun z=>K (.inr (u0,u1,z)))):=
 v8q h0 (vc1 u0) 0  Fuel rfl (v9e h0)
def v5k (a0:ByteArray)(k:Bool→Option Res):Option Res:=
 vis a0 false (vc1 a0)  0 (Sum.elim (fun z27=>
  k z27.1) (fun _=>
  vjy (a0.size:Int) (1:Int) (3:Int) (fun y29=>
   k y29)))
theorem weq {a0:ByteArray}(h0:a0.size<9223372036854775807){k:Bool→Option Res}:vo3 a0 k=v5k a0 k:=by
 rw [v4g]
 simp only [vzu,v5k,(v7u h0),Sum.elim_inl,Sum.elim_inr]
def ver (u0:(List vaa))(u1:Bool)(u2:(List vaa)):List vaa→Nat→(((Bool×Int)⊕Int)→Option Res)→Option Res
 |[],i,k=>
  k (.inr (i:Int))
 |y::l,i,k=>
  vo3 y.1 (fun y1=>
   bif (!y1)then
    k (.inl (false,(i:Int)))
   else
    bif (decide ((y.2.1.size:Int)>(12:Int)))then
     k (.inl (false,(i:Int)))
    else
     bif y.2.2.1 then
      bif (!(van (y.2.1) (⟨#[]⟩:ByteArray)))then
       k (.inl (false,(i:Int)))
      else
       vjy y.2.2.2 (1:Int) (9999:Int) (fun y2=>
        bif (!y2)then
         k (.inl (false,(i:Int)))
        else
         bif (decide ((i:Int)>(0:Int)))then
          if 0≤(IntKind.wrap .i64 ((i:Int)-(1:Int)))∧(IntKind.wrap .i64 ((i:Int)-(1:Int)))<(u0.length:Int)then
           vmy (rd (Ty.zero tVersion) u0 (IntKind.wrap .i64 ((i:Int)-(1:Int)))) y (fun y3=>
            bif (decide (y3≥(0:Int)))then
             k (.inl (false,(i:Int)))
            else
             ver u0 u1 u2 l (i+1) k)
          else none
         else
          ver u0 u1 u2 l (i+1) k)
     else
      vjy y.2.2.2 (1:Int) (9999:Int) (fun y4=>
       bif (!y4)then
        k (.inl (false,(i:Int)))
       else
        bif (decide ((i:Int)>(0:Int)))then
         if 0≤(IntKind.wrap .i64 ((i:Int)-(1:Int)))∧(IntKind.wrap .i64 ((i:Int)-(1:Int)))<(u0.length:Int)then
          vmy (rd (Ty.zero tVersion) u0 (IntKind.wrap .i64 ((i:Int)-(1:Int)))) y (fun y5=>
           bif (decide (y5≥(0:Int)))then
            k (.inl (false,(i:Int)))
           else
            ver u0 u1 u2 l (i+1) k)
         else none
        else
         ver u0 u1 u2 l (i+1) k))
theorem v9j {u0} {u1} {u2}(h0:u2.length<9223372036854775807){K:(q10T⊕q10T)→Option Res}:∀(l:List vaa)(i:Nat)  (n:Nat),u2.drop i=l→l.length<n→vae vi4 n (u0,u1,u2,(u2.length:Int),(i:Int)) K=ver u0 u1 u2 l  i (Sum.elim (fun z=>K (.inl (u0,z.1,u2,(u2.length:Int),z.2))) (fun z=>K (.inr (u0,u1,u2,(u2.length:Int),z)))):=by
 intro l
 induction l with
 |nil=>
  intro i  n hd hn
  have hge:=va8 hd
  cases n with
  |zero=>exact absurd hn (Nat.not_lt_zero _)
  |succ n=>simp only [vae,vi4,ver,hge,decide_false,cond_false,Sum.elim_inr,Sum.elim_inl]
 |cons y l ih=>
  intro i  n hd hn
  obtain⟨hlt,hz,hd2,hw,hnn⟩:=vbu hd h0
  have hy:=vap hd
  cases n with
  |zero=>exact absurd hn (Nat.not_lt_zero _)
  |succ n=>
   have ih2:=ih (i+1)  n hd2 (Nat.lt_of_succ_lt_succ hn)
   simp only [vae,vi4,ver,hlt,hz,decide_true,cond_true,and_self,if_true,hy,hw,hnn,Sum.elim_inl,Sum.elim_inr,ih2]
theorem v9n {u0} {u1} {u2}(h0:u2.length<9223372036854775807){K:(q10T⊕q10T)→Option Res}  : vae vi4 Fuel (u0,u1,u2,(u2.length:Int),(0:Int)) K=ver u0 u1 u2 u2  0 (Sum.elim (fun z=>K (.inl (u0,z.1,u2,(u2.length:Int),z.2))) (fun z=>K (.inr (u0,u1,u2,(u2.length:Int),z)))):=
 v9j h0 u2 0  Fuel rfl (vb1 h0)
def v2z (a0:(List vaa))(k:Bool→Option Res):Option Res:=
 ver a0 false a0 a0  0 (Sum.elim (fun z27=>
  k z27.1) (fun _=>
  k (decide ((a0.length:Int)≤(120:Int)))))
theorem wep {a0:(List vaa)}(h0:a0.length<9223372036854775807){k:Bool→Option Res}:vpg a0 k=v2z a0 k:=by
 rw [v3i]
 simp only [vz4,v2z,(v9n h0),Sum.elim_inl,Sum.elim_inr]
def vh7 (u0:(List vaa))(u1:(List vaa))(u2:Bool):List vaa→Nat→(((Bool×Int)⊕Int)→Option Res)→Option Res
 |[],i,k=>
  k (.inr (i:Int))
 |y::l,i,k=>
  if 0≤(i:Int)∧(i:Int)<(u1.length:Int)then
   bif (!(Ty.eqB tVersion y (rd (Ty.zero tVersion) u1 (i:Int))))then
    k (.inl (false,(i:Int)))
   else
    vh7 u0 u1 u2 l (i+1) k
  else none
theorem v8y {u0} {u1} {u2}(h0:u0.length<9223372036854775807){K:(q7T⊕q7T)→Option Res}:∀(l:List vaa)(i:Nat)  (n:Nat),u0.drop i=l→l.length<n→vae vib n (u0,u1,u2,(i:Int)) K=vh7 u0 u1 u2 l  i (Sum.elim (fun z=>K (.inl (u0,u1,z.1,z.2))) (fun z=>K (.inr (u0,u1,u2,z)))):=by
 intro l
 induction l with
 |nil=>
  intro i  n hd hn
  have hge:=va8 hd
  cases n with
  |zero=>exact absurd hn (Nat.not_lt_zero _)
  |succ n=>simp only [vae,vib,vh7,hge,decide_false,cond_false,Sum.elim_inr,Sum.elim_inl]
 |cons y l ih=>
  intro i  n hd hn
  obtain⟨hlt,hz,hd2,hw,hnn⟩:=vbu hd h0
  have hy:=vap hd
  cases n with
  |zero=>exact absurd hn (Nat.not_lt_zero _)
  |succ n=>
   have ih2:=ih (i+1)  n hd2 (Nat.lt_of_succ_lt_succ hn)
   simp only [vae,vib,vh7,hlt,hz,decide_true,cond_true,and_self,if_true,hy,hw,hnn,Sum.elim_inl,Sum.elim_inr,ih2]
theorem v76 {u0} {u1} {u2}(h0:u0.length<9223372036854775807){K:(q7T⊕q7T)→Option Res}  : vae vib Fuel (u0,u1,u2,(0:Int)) K=vh7 u0 u1 u2 u0  0 (Sum.elim (fun z=>K (.inl (u0,u1,z.1,z.2))) (fun z=>K (.inr (u0,u1,u2,z)))):=
 v8y h0 u0 0  Fuel rfl (vb1 h0)
def v3q (a0:(List vaa))(a1:(List vaa))(k:Bool→Option Res):Option Res:=
 bif ((a0.length:Int) != (a1.length:Int))then
  k false
 else
  vh7 a0 a1 false a0  0 (Sum.elim (fun z27=>
   k z27.1) (fun _=>
   k true))
theorem wfm {a0:(List vaa)}{a1:(List vaa)}(h0:a0.length<9223372036854775807){k:Bool→Option Res}:vlm a0 a1 k=v3q a0 a1 k:=by
 rw [v3e]
 simp only [v0h,v3q,(v76 h0),Sum.elim_inl,Sum.elim_inr]
def vgm (u0:(List (List vaa)))(u2:(List (List vaa))):List (List vaa)→Int→Nat→((Int×Int)→Option Res)→Option Res
 |[],s1,i,k=>
  k (s1,(i:Int))
 |y::l,s1,i,k=>
  bif (decide ((IntKind.wrap .i64 (s1+(y.length:Int)))<(0:Int)))then
   none
  else
   vgm u0 u2 l (IntKind.wrap .i64 (s1+(y.length:Int))) (i+1) k
theorem v8s {u0} {u2}(h0:u2.length<9223372036854775807){K:q0T→Option Res}:∀(l:List (List vaa))(i:Nat)(s1:Int)(n:Nat),u2.drop i=l→l.length<n→vae vii n (u0,s1,u2,(u2.length:Int),(i:Int)) K=vgm u0 u2 l s1 i (fun z=>K (u0,z.1,u2,(u2.length:Int),z.2)):=by
 intro l
 induction l with
 |nil=>
  intro i s1 n hd hn
  have hge:=va8 hd
  cases n with
  |zero=>exact absurd hn (Nat.not_lt_zero _)
  |succ n=>simp only [vae,vii,vgm,hge,decide_false,cond_false,Sum.elim_inr,Sum.elim_inl]
 |cons y l ih=>
  intro i s1 n hd hn
  obtain⟨hlt,hz,hd2,hw,hnn⟩:=vbu hd h0
  have hy:=vap hd
  cases n with
  |zero=>exact absurd hn (Nat.not_lt_zero _)
  |succ n=>
   have ih2:=fun(s1:Int)=>ih (i+1) s1 n hd2 (Nat.lt_of_succ_lt_succ hn)
   simp only [vae,vii,vgm,hlt,hz,decide_true,cond_true,and_self,if_true,hy,hw,hnn,Sum.elim_inl,Sum.elim_inr,ih2]
theorem v6y {u0} {u2}(h0:u2.length<9223372036854775807){K:q0T→Option Res}{s1:Int}:vae vii Fuel (u0,s1,u2,(u2.length:Int),(0:Int)) K=vgm u0 u2 u2 s1 0 (fun z=>K (u0,z.1,u2,(u2.length:Int),z.2)):=
 v8s h0 u2 0 s1 Fuel rfl (vb1 h0)
def vg8 (u0:(List (List vaa))):List (List vaa)→(List vaa)→Nat→((Int×(List vaa))→Option Res)→Option Res
 |[],s3,i,k=>
  k ((i:Int),s3)
 |y::l,s3,i,k=>
  if s3.length+y.length≤VE.maxLen then
   vg8 u0 l (s3++y) (i+1) k
  else none
theorem v66 {u0}(h0:u0.length<9223372036854775807){K:q1T→Option Res}:∀(l:List (List vaa))(i:Nat)(s3:(List vaa))(n:Nat),u0.drop i=l→l.length<n→vae vh2 n (u0,(u0.length:Int),(i:Int),s3) K=vg8 u0 l s3 i (fun z=>K (u0,(u0.length:Int),z.1,z.2)):=by
 intro l
 induction l with
 |nil=>
  intro i s3 n hd hn
  have hge:=va8 hd
  cases n with
  |zero=>exact absurd hn (Nat.not_lt_zero _)
  |succ n=>simp only [vae,vh2,vg8,hge,decide_false,cond_false,Sum.elim_inr,Sum.elim_inl]
 |cons y l ih=>
  intro i s3 n hd hn
  obtain⟨hlt,hz,hd2,hw,hnn⟩:=vbu hd h0
  have hy:=vap hd
  cases n with
  |zero=>exact absurd hn (Nat.not_lt_zero _)
  |succ n=>
   have ih2:=fun(s3:(List vaa))=>ih (i+1) s3 n hd2 (Nat.lt_of_succ_lt_succ hn)
   simp only [vae,vh2,vg8,hlt,hz,decide_true,cond_true,and_self,if_true,hy,hw,hnn,Sum.elim_inl,Sum.elim_inr,ih2]
theorem v82 {u0}(h0:u0.length<9223372036854775807){K:q1T→Option Res}{s3:(List vaa)}:vae vh2 Fuel (u0,(u0.length:Int),(0:Int),s3) K=vg8 u0 u0 s3 0 (fun z=>K (u0,(u0.length:Int),z.1,z.2)):=
 v66 h0 u0 0 s3 Fuel rfl (vb1 h0)
def v2w (a0:(List (List vaa)))(k:(List vaa)→Option Res):Option Res:=
 vgm a0 a0 a0 (0:Int) 0 (fun z27=>
  vqh z27.1 (fun y28=>
   vg8 a0 a0 y28 0 (fun z29=>
    k z29.2)))
theorem we5 {a0:(List (List vaa))}(h0:a0.length<9223372036854775807){k:(List vaa)→Option Res}:vrd a0 k=v2w a0 k:=by
 rw [v48]
 simp only [vzz,v2w,(v82 h0),(v6y h0),Sum.elim_inl,Sum.elim_inr]
def viz (u0:(List vam))(u1:(List vam))(u2:Bool):List vam→Nat→(((Bool×Int)⊕Int)→Option Res)→Option Res
 |[],i,k=>
  k (.inr (i:Int))
 |y::l,i,k=>
  if 0≤(i:Int)∧(i:Int)<(u1.length:Int)then
   bif (!(Ty.eqB tRange y (rd (Ty.zero tRange) u1 (i:Int))))then
    k (.inl (false,(i:Int)))
   else
    viz u0 u1 u2 l (i+1) k
  else none
theorem v7m {u0} {u1} {u2}(h0:u0.length<9223372036854775807){K:(q5T⊕q5T)→Option Res}:∀(l:List vam)(i:Nat)  (n:Nat),u0.drop i=l→l.length<n→vae vi3 n (u0,u1,u2,(u0.length:Int),(i:Int)) K=viz u0 u1 u2 l  i (Sum.elim (fun z=>K (.inl (u0,u1,z.1,(u0.length:Int),z.2))) (fun z=>K (.inr (u0,u1,u2,(u0.length:Int),z)))):=by
 intro l
 induction l with
 |nil=>
  intro i  n hd hn
  have hge:=va8 hd
  cases n with
  |zero=>exact absurd hn (Nat.not_lt_zero _)
  |succ n=>simp only [vae,vi3,viz,hge,decide_false,cond_false,Sum.elim_inr,Sum.elim_inl]
 |cons y l ih=>
  intro i  n hd hn
  obtain⟨hlt,hz,hd2,hw,hnn⟩:=vbu hd h0
  have hy:=vap hd
  cases n with
  |zero=>exact absurd hn (Nat.not_lt_zero _)
  |succ n=>
   have ih2:=ih (i+1)  n hd2 (Nat.lt_of_succ_lt_succ hn)
   simp only [vae,vi3,viz,hlt,hz,decide_true,cond_true,and_self,if_true,hy,hw,hnn,Sum.elim_inl,Sum.elim_inr,ih2]
theorem v7n {u0} {u1} {u2}(h0:u0.length<9223372036854775807){K:(q5T⊕q5T)→Option Res}  : vae vi3 Fuel (u0,u1,u2,(u0.length:Int),(0:Int)) K=viz u0 u1 u2 u0  0 (Sum.elim (fun z=>K (.inl (u0,u1,z.1,(u0.length:Int),z.2))) (fun z=>K (.inr (u0,u1,u2,(u0.length:Int),z)))):=
 v7m h0 u0 0  Fuel rfl (vb1 h0)
def v33 (a0:(List vam))(a1:(List vam))(k:Bool→Option Res):Option Res:=
 bif ((a0.length:Int) != (a1.length:Int))then
  k false
 else
  viz a0 a1 false a0  0 (Sum.elim (fun z27=>
   k z27.1) (fun _=>
   k true))
theorem wfo {a0:(List vam)}{a1:(List vam)}(h0:a0.length<9223372036854775807){k:Bool→Option Res}:vq0 a0 a1 k=v33 a0 a1 k:=by
 rw [v5m]
 simp only [vyx,v33,(v7n h0),Sum.elim_inl,Sum.elim_inr]
def vip (u0:(List vam))(u1:(List vam))(u2:Bool):List vam→Nat→(((Bool×Int)⊕Int)→Option Res)→Option Res
 |[],i,k=>
  k (.inr (i:Int))
 |y::l,i,k=>
  if 0≤(i:Int)∧(i:Int)<(u1.length:Int)then
   bif (!(Ty.eqB tRange y (rd (Ty.zero tRange) u1 (i:Int))))then
    k (.inl (false,(i:Int)))
   else
    vip u0 u1 u2 l (i+1) k
  else none
theorem v7d {u0} {u1} {u2}(h0:u0.length<9223372036854775807){K:(q6T⊕q6T)→Option Res}:∀(l:List vam)(i:Nat)  (n:Nat),u0.drop i=l→l.length<n→vae vhr n (u0,u1,u2,(i:Int)) K=vip u0 u1 u2 l  i (Sum.elim (fun z=>K (.inl (u0,u1,z.1,z.2))) (fun z=>K (.inr (u0,u1,u2,z)))):=by
 intro l
 induction l with
 |nil=>
  intro i  n hd hn
  have hge:=va8 hd
  cases n with
  |zero=>exact absurd hn (Nat.not_lt_zero _)
  |succ n=>simp only [vae,vhr,vip,hge,decide_false,cond_false,Sum.elim_inr,Sum.elim_inl]
 |cons y l ih=>
  intro i  n hd hn
  obtain⟨hlt,hz,hd2,hw,hnn⟩:=vbu hd h0
  have hy:=vap hd
  cases n with
  |zero=>exact absurd hn (Nat.not_lt_zero _)
  |succ n=>
   have ih2:=ih (i+1)  n hd2 (Nat.lt_of_succ_lt_succ hn)
   simp only [vae,vhr,vip,hlt,hz,decide_true,cond_true,and_self,if_true,hy,hw,hnn,Sum.elim_inl,Sum.elim_inr,ih2]
theorem v7p {u0} {u1} {u2}(h0:u0.length<9223372036854775807){K:(q6T⊕q6T)→Option Res}  : vae vhr Fuel (u0,u1,u2,(0:Int)) K=vip u0 u1 u2 u0  0 (Sum.elim (fun z=>K (.inl (u0,u1,z.1,z.2))) (fun z=>K (.inr (u0,u1,u2,z)))):=
 v7d h0 u0 0  Fuel rfl (vb1 h0)
def v4a (a0:(List vam))(a1:(List vam))(k:Bool→Option Res):Option Res:=
 bif ((a0.length:Int) != (a1.length:Int))then
  k false
 else
  vip a0 a1 false a0  0 (Sum.elim (fun z27=>
   k z27.1) (fun _=>
   k true))
theorem wew {a0:(List vam)}{a1:(List vam)}(h0:a0.length<9223372036854775807){k:Bool→Option Res}:voi a0 a1 k=v4a a0 a1 k:=by
 rw [v6i]
 simp only [vy8,v4a,(v7p h0),Sum.elim_inl,Sum.elim_inr]
def v27 (a0:(List Int))(k:Bool→Option Res):Option Res:=
 vp3 a0 (fun y27=>
  bif y27 then
   k true
  else
   vrm a0 (fun y28=>
    vq2 a0 (fun y29=>
     if 0≤(0:Int)∧(0:Int)<(y29.length:Int)then
      vhp y28 ((y29.getD (0:Int).toNat (Ty.zero (.int .i64))).tmod (10:Int)) (fun y30=>
       vae vig Fuel (a0,false,((y29.getD (0:Int).toNat (Ty.zero (.int .i64))).tmod (10:Int)),((y29.getD (0:Int).toNat (Ty.zero (.int .i64))).tmod (10:Int)),y28,y30) (Sum.elim (fun z31=>
        k z31.2.1) (fun z32=>
        vq9 z32.1 (fun y33=>
         vq8 z32.1 (fun y34=>
          vqt z32.1 (fun y35=>
           vpg z32.2.2.2.2.2 (fun y36=>
            bif y36 then
             bif (decide ((z32.2.2.2.2.2.length:Int)≤(z32.2.2.2.2.1.length:Int)))then
              vhp z32.2.2.2.2.2 z32.2.2.1 (fun y37=>
               vlm y37 z32.2.2.2.2.2 (fun y38=>
                bif y38 then
                 vmt z32.2.2.2.2.2 z32.2.2.2.2.1 z32.2.2.1 (fun y39=>
                  bif y39 then
                   vhp y33.2 y33.1 (fun y40=>
                    vmg y33.2 y33.1 (fun y41=>
                     vlm y40 y41 (fun y42=>
                      bif y42 then
                       vmt y34.2.1 y34.2.2 y34.1 (fun y43=>
                        vp6 y34.2.1 y34.2.2 y34.1 (fun y44=>
                         bif (y43==y44)then
                          vjx y35.2.2.2 (y35.1,y35.2.1) y35.2.2.1 (fun y45=>
                           vhl y35.2.2.2 (y35.1,y35.2.1) y35.2.2.1 (fun y46=>
                            vml y45 y46 (fun y47=>
                             k y47)))
                         else
                          k false))
                      else
                       k false)))
                  else
                   k false)
                else
                 k false))
             else
              k false
            else
             k false)))))))
     else none)))
theorem wfd {a0:(List Int)}  {k:Bool→Option Res}:vuo a0 k=v27 a0 k:=by
 rw [v39]
 simp only [vy3,v27,Sum.elim_inl,Sum.elim_inr]
end
end Go.VE
