/- Loops told as recursions over what is left; written by gen.py. -/
import Derived.Test.YteolgjmeigifbaaFnTxnsN
import Derived.Test.YteolgjmeigifbaaP1
namespace Go.VE
noncomputable section
set_option linter.unusedVariables false
set_option linter.unusedSimpArgs false
set_option maxRecDepth 100000
def vfw (u0:(List vaa))(u2:ByteArray)(u3:ByteArray)(u4:Bool):List vaa→(List vaa)→Nat→((Int×(List vaa))→Option Res)→Option Res
 |[],s5,i,k=>
  k ((i:Int),s5)
 |y::l,s5,i,k=>
  bif (vai (y.1) u2)then
   if s5.length+[y].length≤VE.maxLen then
    vfw u0 u2 u3 u4 l (s5++[y]) (i+1) k
   else none
  else
   vfw u0 u2 u3 u4 l s5 (i+1) k
theorem wj3 {u0} {u2} {u3} {u4}(h0:u0.length<9223372036854775807){K:q12T→Option Res}:∀(l:List vaa) (i:Nat) (s5:(List vaa)) (n:Nat),u0.drop i=l→l.length<n→vak vkz n (u0,(i:Int),u2,u3,u4,s5) K=vfw u0 u2 u3 u4 l s5 i (fun z=>K (u0,z.1,u2,u3,u4,z.2)):=by
 intro l
 induction l with
 |nil=>
  intro i s5 n hd hn
  have hge:=vb9 hd
  cases n with
  |zero=>exact absurd hn (Nat.not_lt_zero _)
  |succ n=>simp only [vak,vkz,vfw,hge,decide_false,cond_false,Sum.elim_inr,Sum.elim_inl]
 |cons y l ih=>
  intro i s5 n hd hn
  obtain⟨hlt,hz,hd2,hw,hnn⟩:=vbv hd h0
  have hy:=vbn hd
  cases n with
  |zero=>exact absurd hn (Nat.not_lt_zero _)
  |succ n=>
   have ih2:=fun(s5:(List vaa))=>ih (i+1) s5 n hd2 (Nat.lt_of_succ_lt_succ hn)
   simp only [vak,vkz,vfw,hlt,hz,decide_true,cond_true,and_self,if_true,hy,hw,hnn,Sum.elim_inl,Sum.elim_inr,ih2]
theorem wjw {u0} {u2} {u3} {u4}(h0:u0.length<9223372036854775807){K:q12T→Option Res}{s5:(List vaa)}:vak vkz Fuel (u0,(0:Int),u2,u3,u4,s5) K=vfw u0 u2 u3 u4 u0 s5 0 (fun z=>K (u0,z.1,u2,u3,u4,z.2)):=
 wj3 h0 u0 0 s5 Fuel rfl (vbu h0)
def vf2 (u0:(List vaa))(u2:ByteArray)(u3:ByteArray)(u4:Bool):List vaa→(List vaa)→Nat→((Int×(List vaa))→Option Res)→Option Res
 |[],s5,i,k=>
  k ((i:Int),s5)
 |y::l,s5,i,k=>
  bif (!((vai (y.1) u2)||(vav (y.1) u2)))then
   if s5.length+[y].length≤VE.maxLen then
    vf2 u0 u2 u3 u4 l (s5++[y]) (i+1) k
   else none
  else
   vf2 u0 u2 u3 u4 l s5 (i+1) k
theorem wjp {u0} {u2} {u3} {u4}(h0:u0.length<9223372036854775807){K:q12T→Option Res}:∀(l:List vaa) (i:Nat) (s5:(List vaa)) (n:Nat),u0.drop i=l→l.length<n→vak vj3 n (u0,(i:Int),u2,u3,u4,s5) K=vf2 u0 u2 u3 u4 l s5 i (fun z=>K (u0,z.1,u2,u3,u4,z.2)):=by
 intro l
 induction l with
 |nil=>
  intro i s5 n hd hn
  have hge:=vb9 hd
  cases n with
  |zero=>exact absurd hn (Nat.not_lt_zero _)
  |succ n=>simp only [vak,vj3,vf2,hge,decide_false,cond_false,Sum.elim_inr,Sum.elim_inl]
 |cons y l ih=>
  intro i s5 n hd hn
  obtain⟨hlt,hz,hd2,hw,hnn⟩:=vbv hd h0
  have hy:=vbn hd
  cases n with
  |zero=>exact absurd hn (Nat.not_lt_zero _)
  |succ n=>
   have ih2:=fun(s5:(List vaa))=>ih (i+1) s5 n hd2 (Nat.lt_of_succ_lt_succ hn)
   simp only [vak,vj3,vf2,hlt,hz,decide_true,cond_true,and_self,if_true,hy,hw,hnn,Sum.elim_inl,Sum.elim_inr,ih2]
theorem wha {u0} {u2} {u3} {u4}(h0:u0.length<9223372036854775807){K:q12T→Option Res}{s5:(List vaa)}:vak vj3 Fuel (u0,(0:Int),u2,u3,u4,s5) K=vf2 u0 u2 u3 u4 u0 s5 0 (fun z=>K (u0,z.1,u2,u3,u4,z.2)):=
 wjp h0 u0 0 s5 Fuel rfl (vbu h0)
def v0i (a0:(List vaa))(a1:vaa)(k:(List vaa)→Option Res):Option Res:=
 vfw a0 a1.1 a1.2.1 a1.2.2 a0 ([]:List vaa) 0 (fun z31=>
  if z31.2.length+[a1].length≤VE.maxLen then
   vf2 a0 a1.1 a1.2.1 a1.2.2 a0 (z31.2++[a1]) 0 (fun z32=>
    k z32.2)
  else none)
theorem wk3 {a0:(List vaa)}{a1:vaa}(h0:a0.length<9223372036854775807){k:(List vaa)→Option Res}:vks a0 a1 k=v0i a0 a1 k:=by
 rw [wcs]
 simp only [v7e,v0i,(wha h0),(wjw h0),Sum.elim_inl,Sum.elim_inr]
def vk6 (u0:ByteArray)(u1:Bool):List Int→Nat→(((Bool×Int)⊕Int)→Option Res)→Option Res
 |[],i,k=>
  k (.inr (i:Int))
 |y::l,i,k=>
  bif (decide (y<(97:Int)))then
   k (.inl (false,(i:Int)))
  else
   bif (decide (y>(122:Int)))then
    k (.inl (false,(i:Int)))
   else
    vk6 u0 u1 l (i+1) k
theorem wia {u0} {u1}(h0:u0.size<9223372036854775807){K:((ByteArray×Bool×Int)⊕(ByteArray×Bool×Int))→Option Res}:∀(l:List Int) (i:Nat)  (n:Nat),(vaf u0).drop i=l→l.length<n→vak vld n (u0,u1,(i:Int)) K=vk6 u0 u1 l  i (Sum.elim (fun z=>K (.inl (u0,z.1,z.2))) (fun z=>K (.inr (u0,u1,z)))):=by
 intro l
 induction l with
 |nil=>
  intro i  n hd hn
  have hge:=vzn hd
  cases n with
  |zero=>exact absurd hn (Nat.not_lt_zero _)
  |succ n=>simp only [vak,vld,vk6,hge,decide_false,cond_false,Sum.elim_inr,Sum.elim_inl]
 |cons y l ih=>
  intro i  n hd hn
  obtain⟨hlt,hz,hd2,hw,hnn⟩:=v8n hd h0
  have hy:=v3w hd
  cases n with
  |zero=>exact absurd hn (Nat.not_lt_zero _)
  |succ n=>
   have ih2:=ih (i+1)  n hd2 (Nat.lt_of_succ_lt_succ hn)
   simp only [vak,vld,vk6,hlt,hz,decide_true,cond_true,and_self,if_true,hy,hw,hnn,Sum.elim_inl,Sum.elim_inr,ih2]
theorem wiz {u0} {u1}(h0:u0.size<9223372036854775807){K:((ByteArray×Bool×Int)⊕(ByteArray×Bool×Int))→Option Res}  : vak vld Fuel (u0,u1,(0:Int)) K=vk6 u0 u1 (vaf u0)  0 (Sum.elim (fun z=>K (.inl (u0,z.1,z.2))) (fun z=>K (.inr (u0,u1,z)))):=
 wia h0 (vaf u0) 0  Fuel rfl (v60 h0)
def wgu (a0:ByteArray)(k:Bool→Option Res):Option Res:=
 vk6 a0 false (vaf a0)  0 (Sum.elim (fun z31=>
  k z31.1) (fun _=>
  vfp (a0.size:Int) (1:Int) (3:Int) (fun y33=>
   k y33)))
theorem wpe {a0:ByteArray}(h0:a0.size<9223372036854775807){k:Bool→Option Res}:vmt a0 k=wgu a0 k:=by
 rw [we6]
 simp only [v72,wgu,(wiz h0),Sum.elim_inl,Sum.elim_inr]
def vjv (u0:(List vaa))(u1:Bool)(u2:(List vaa)):List vaa→Nat→(((Bool×Int)⊕Int)→Option Res)→Option Res
 |[],i,k=>
  k (.inr (i:Int))
 |y::l,i,k=>
  vp3 y (fun y1=>
   bif (!y1)then
    k (.inl (false,(i:Int)))
   else
    bif (decide ((i:Int)>(0:Int)))then
     if 0≤(IntKind.wrap .i64 ((i:Int)-(1:Int)))∧(IntKind.wrap .i64 ((i:Int)-(1:Int)))<(u0.length:Int)then
      bif (!(vai ((rd (Ty.zero tWrite) u0 (IntKind.wrap .i64 ((i:Int)-(1:Int)))).1) (y.1)))then
       k (.inl (false,(i:Int)))
      else
       vjv u0 u1 u2 l (i+1) k
     else none
    else
     vjv u0 u1 u2 l (i+1) k)
theorem wh1 {u0} {u1} {u2}(h0:u2.length<9223372036854775807){K:(q11T⊕q11T)→Option Res}:∀(l:List vaa) (i:Nat)  (n:Nat),u2.drop i=l→l.length<n→vak vk8 n (u0,u1,u2,(u2.length:Int),(i:Int)) K=vjv u0 u1 u2 l  i (Sum.elim (fun z=>K (.inl (u0,z.1,u2,(u2.length:Int),z.2))) (fun z=>K (.inr (u0,u1,u2,(u2.length:Int),z)))):=by
 intro l
 induction l with
 |nil=>
  intro i  n hd hn
  have hge:=vb9 hd
  cases n with
  |zero=>exact absurd hn (Nat.not_lt_zero _)
  |succ n=>simp only [vak,vk8,vjv,hge,decide_false,cond_false,Sum.elim_inr,Sum.elim_inl]
 |cons y l ih=>
  intro i  n hd hn
  obtain⟨hlt,hz,hd2,hw,hnn⟩:=vbv hd h0
  have hy:=vbn hd
  cases n with
  |zero=>exact absurd hn (Nat.not_lt_zero _)
  |succ n=>
   have ih2:=ih (i+1)  n hd2 (Nat.lt_of_succ_lt_succ hn)
   simp only [vak,vk8,vjv,hlt,hz,decide_true,cond_true,and_self,if_true,hy,hw,hnn,Sum.elim_inl,Sum.elim_inr,ih2]
theorem wkh {u0} {u1} {u2}(h0:u2.length<9223372036854775807){K:(q11T⊕q11T)→Option Res}  : vak vk8 Fuel (u0,u1,u2,(u2.length:Int),(0:Int)) K=vjv u0 u1 u2 u2  0 (Sum.elim (fun z=>K (.inl (u0,z.1,u2,(u2.length:Int),z.2))) (fun z=>K (.inr (u0,u1,u2,(u2.length:Int),z)))):=
 wh1 h0 u2 0  Fuel rfl (vbu h0)
def wdo (a0:(List vaa))(k:Bool→Option Res):Option Res:=
 vjv a0 false a0 a0  0 (Sum.elim (fun z31=>
  k z31.1) (fun _=>
  k (decide ((a0.length:Int)≤(8:Int)))))
theorem wp5 {a0:(List vaa)}(h0:a0.length<9223372036854775807){k:Bool→Option Res}:vs8 a0 k=wdo a0 k:=by
 rw [wb9]
 simp only [v8s,wdo,(wkh h0),Sum.elim_inl,Sum.elim_inr]
def vco (u0:Bool)(u1:Int)(u2:Int)(u3:Int)(u4:Int)(u5:(List vad))(u6:(List vaa))(u7:Bool)(u8:ByteArray)(k:Bool→Option Res):Option Res:=
  bif (u2==(2:Int))then
   vmt u8 (fun y1=>
    bif y1 then
     k true
    else
     bif (u2 != (2:Int))then
      k (vav u8 (⟨#[]⟩:ByteArray))
     else
      k false)
  else
   bif (u2 != (2:Int))then
    k (vav u8 (⟨#[]⟩:ByteArray))
   else
    k false
theorem vus {u0} {u1} {u2} {u3} {u4} {u5} {u6} {u7} {u8}  {K:q24T→Option Res}:vb3 (u0,u1,u2,u3,u4,u5,u6,u7,u8) K=vco u0 u1 u2 u3 u4 u5 u6 u7 u8 (fun z=>K (z,u1,u2,u3,u4,u5,u6,u7,u8)):=by
 simp only [vb3,vco,Sum.elim_inl,Sum.elim_inr]
def vd0 (u0:Bool)(u1:Int)(u2:Int)(u3:Int)(u4:Int)(u5:(List vad))(u6:(List vaa))(u7:Bool)(u8:ByteArray)(k:Bool→Option Res):Option Res:=
  bif (u2==(3:Int))then
   vfp u4 (IntKind.wrap .i64 (u3+(1:Int))) (9999:Int) (fun y1=>
    bif (!y1)then
     k false
    else
     bif (u2 != (3:Int))then
      bif (u4 != (0:Int))then
       k false
      else
       vco u0 u1 u2 u3 u4 u5 u6 u7 u8 (fun z2=>
        k z2)
     else
      vco u0 u1 u2 u3 u4 u5 u6 u7 u8 (fun z3=>
       k z3))
  else
   bif (u2 != (3:Int))then
    bif (u4 != (0:Int))then
     k false
    else
     vco u0 u1 u2 u3 u4 u5 u6 u7 u8 (fun z4=>
      k z4)
   else
    vco u0 u1 u2 u3 u4 u5 u6 u7 u8 (fun z5=>
     k z5)
theorem vt2 {u0} {u1} {u2} {u3} {u4} {u5} {u6} {u7} {u8}  {K:q24T→Option Res}:vcy (u0,u1,u2,u3,u4,u5,u6,u7,u8) K=vd0 u0 u1 u2 u3 u4 u5 u6 u7 u8 (fun z=>K (z,u1,u2,u3,u4,u5,u6,u7,u8)):=by
 simp only [vcy,vd0,vus,Sum.elim_inl,Sum.elim_inr]
def vkq (u0:Bool)(u1:(List vad))(u4:Int)(u5:Int)(u6:Int)(u7:Int)(u8:(List vad))(u9:(List vaa))(u10:Bool)(u11:ByteArray):List vad→Nat→(((Bool×Int)⊕Int)→Option Res)→Option Res
 |[],i,k=>
  k (.inr (i:Int))
 |y::l,i,k=>
  vqe y (fun y1=>
   bif (!y1)then
    k (.inl (false,(i:Int)))
   else
    vkq u0 u1 u4 u5 u6 u7 u8 u9 u10 u11 l (i+1) k)
theorem wja {u0} {u1} {u4} {u5} {u6} {u7} {u8} {u9} {u10} {u11}(h0:u1.length<9223372036854775807){K:(q17T⊕q17T)→Option Res}:∀(l:List vad) (i:Nat)  (n:Nat),u1.drop i=l→l.length<n→vak vka n (u0,u1,(u1.length:Int),(i:Int),u4,u5,u6,u7,u8,u9,u10,u11) K=vkq u0 u1 u4 u5 u6 u7 u8 u9 u10 u11 l  i (Sum.elim (fun z=>K (.inl (z.1,u1,(u1.length:Int),z.2,u4,u5,u6,u7,u8,u9,u10,u11))) (fun z=>K (.inr (u0,u1,(u1.length:Int),z,u4,u5,u6,u7,u8,u9,u10,u11)))):=by
 intro l
 induction l with
 |nil=>
  intro i  n hd hn
  have hge:=vb9 hd
  cases n with
  |zero=>exact absurd hn (Nat.not_lt_zero _)
  |succ n=>simp only [vak,vka,vkq,hge,decide_false,cond_false,Sum.elim_inr,Sum.elim_inl]
 |cons y l ih=>
  intro i  n hd hn
  obtain⟨hlt,hz,hd2,hw,hnn⟩:=vbv hd h0
  have hy:=vbn hd
  cases n with
  |zero=>exact absurd hn (Nat.not_lt_zero _)
  |succ n=>
   have ih2:=ih (i+1)  n hd2 (Nat.lt_of_succ_lt_succ hn)
   simp only [vak,vka,vkq,hlt,hz,decide_true,cond_true,and_self,if_true,hy,hw,hnn,Sum.elim_inl,Sum.elim_inr,ih2]
theorem wjd {u0} {u1} {u4} {u5} {u6} {u7} {u8} {u9} {u10} {u11}(h0:u1.length<9223372036854775807){K:(q17T⊕q17T)→Option Res}  : vak vka Fuel (u0,u1,(u1.length:Int),(0:Int),u4,u5,u6,u7,u8,u9,u10,u11) K=vkq u0 u1 u4 u5 u6 u7 u8 u9 u10 u11 u1  0 (Sum.elim (fun z=>K (.inl (z.1,u1,(u1.length:Int),z.2,u4,u5,u6,u7,u8,u9,u10,u11))) (fun z=>K (.inr (u0,u1,(u1.length:Int),z,u4,u5,u6,u7,u8,u9,u10,u11)))):=
 wja h0 u1 0  Fuel rfl (vbu h0)
def wg2 (a0:dTxn)(k:Bool→Option Res):Option Res:=
 vkq false a0.2.2.2.2.1 a0.1 a0.2.1 a0.2.2.1 a0.2.2.2.1 a0.2.2.2.2.1 a0.2.2.2.2.2.1 a0.2.2.2.2.2.2.1 a0.2.2.2.2.2.2.2 a0.2.2.2.2.1  0 (Sum.elim (fun z31=>
  k z31.1) (fun _=>
  vfp a0.1 (1:Int) (9999:Int) (fun y33=>
   bif (!y33)then
    k false
   else
    vfp a0.2.1 (1:Int) (3:Int) (fun y34=>
     bif (!y34)then
      k false
     else
      vfp a0.2.2.1 (0:Int) (9999:Int) (fun y35=>
       bif (!y35)then
        k false
       else
        bif (decide ((a0.2.2.2.2.1.length:Int)>(8:Int)))then
         k false
        else
         vs8 a0.2.2.2.2.2.1 (fun y36=>
          bif (!y36)then
           k false
          else
           bif a0.2.2.2.2.2.2.1 then
            bif (a0.2.1==(1:Int))then
             k false
            else
             vd0 false a0.1 a0.2.1 a0.2.2.1 a0.2.2.2.1 a0.2.2.2.2.1 a0.2.2.2.2.2.1 a0.2.2.2.2.2.2.1 a0.2.2.2.2.2.2.2 (fun z37=>
              k z37)
           else
            vd0 false a0.1 a0.2.1 a0.2.2.1 a0.2.2.2.1 a0.2.2.2.2.1 a0.2.2.2.2.2.1 a0.2.2.2.2.2.2.1 a0.2.2.2.2.2.2.2 (fun z38=>
             k z38)))))))
theorem wq6 {a0:dTxn}(h0:a0.2.2.2.2.1.length<9223372036854775807){k:Bool→Option Res}:vgp a0 k=wg2 a0 k:=by
 rw [wgy]
 simp only [v75,wg2,vt2,(wjd h0),Sum.elim_inl,Sum.elim_inr]
def vky (u0:(List Int)):List Int→(List Int)→Nat→((Int×(List Int))→Option Res)→Option Res
 |[],s3,i,k=>
  k ((i:Int),s3)
 |y::l,s3,i,k=>
  vj9 y (fun y1=>
   if s3.length+(vaf y1.1).length≤VE.maxLen then
    vky u0 l (s3++(vaf y1.1)) (i+1) k
   else none)
theorem wiw {u0}(h0:u0.length<9223372036854775807){K:q1T→Option Res}:∀(l:List Int) (i:Nat) (s3:(List Int)) (n:Nat),u0.drop i=l→l.length<n→vak vlb n (u0,(u0.length:Int),(i:Int),s3) K=vky u0 l s3 i (fun z=>K (u0,(u0.length:Int),z.1,z.2)):=by
 intro l
 induction l with
 |nil=>
  intro i s3 n hd hn
  have hge:=vb9 hd
  cases n with
  |zero=>exact absurd hn (Nat.not_lt_zero _)
  |succ n=>simp only [vak,vlb,vky,hge,decide_false,cond_false,Sum.elim_inr,Sum.elim_inl]
 |cons y l ih=>
  intro i s3 n hd hn
  obtain⟨hlt,hz,hd2,hw,hnn⟩:=vbv hd h0
  have hy:=vbn hd
  cases n with
  |zero=>exact absurd hn (Nat.not_lt_zero _)
  |succ n=>
   have ih2:=fun(s3:(List Int))=>ih (i+1) s3 n hd2 (Nat.lt_of_succ_lt_succ hn)
   simp only [vak,vlb,vky,hlt,hz,decide_true,cond_true,and_self,if_true,hy,hw,hnn,Sum.elim_inl,Sum.elim_inr,ih2]
theorem wix {u0}(h0:u0.length<9223372036854775807){K:q1T→Option Res}{s3:(List Int)}:vak vlb Fuel (u0,(u0.length:Int),(0:Int),s3) K=vky u0 u0 s3 0 (fun z=>K (u0,(u0.length:Int),z.1,z.2)):=
 wiw h0 u0 0 s3 Fuel rfl (vbu h0)
def wfz (a0:(List Int))(k:(List Int)→Option Res):Option Res:=
 vky a0 a0 ([]:List Int) 0 (fun z31=>
  k z31.2)
theorem wso {a0:(List Int)}(h0:a0.length<9223372036854775807){k:(List Int)→Option Res}:vsm a0 k=wfz a0 k:=by
 rw [wby]
 simp only [v6l,wfz,(wix h0),Sum.elim_inl,Sum.elim_inr]
def vjh (u0:(List vad))(u3:Int)(u4:Int)(u5:Int)(u6:Int)(u7:(List vad))(u8:(List vaa))(u9:Bool)(u10:ByteArray):List vad→(List Int)→Nat→((Int×(List Int))→Option Res)→Option Res
 |[],s11,i,k=>
  k ((i:Int),s11)
 |y::l,s11,i,k=>
  vir [y.1,y.2] s11 (Sum.elim (fun y1=>
   vjh u0 u3 u4 u5 u6 u7 u8 u9 u10 l y1 (i+1) k) (fun y2=>
   vjh u0 u3 u4 u5 u6 u7 u8 u9 u10 l y2 (i+1) k))
theorem wji {u0} {u3} {u4} {u5} {u6} {u7} {u8} {u9} {u10}(h0:u0.length<9223372036854775807){K:q6T→Option Res}:∀(l:List vad) (i:Nat) (s11:(List Int)) (n:Nat),u0.drop i=l→l.length<n→vak vlj n (u0,(u0.length:Int),(i:Int),u3,u4,u5,u6,u7,u8,u9,u10,s11) K=vjh u0 u3 u4 u5 u6 u7 u8 u9 u10 l s11 i (fun z=>K (u0,(u0.length:Int),z.1,u3,u4,u5,u6,u7,u8,u9,u10,z.2)):=by
 intro l
 induction l with
 |nil=>
  intro i s11 n hd hn
  have hge:=vb9 hd
  cases n with
  |zero=>exact absurd hn (Nat.not_lt_zero _)
  |succ n=>simp only [vak,vlj,vjh,hge,decide_false,cond_false,Sum.elim_inr,Sum.elim_inl]
 |cons y l ih=>
  intro i s11 n hd hn
  obtain⟨hlt,hz,hd2,hw,hnn⟩:=vbv hd h0
  have hy:=vbn hd
  cases n with
  |zero=>exact absurd hn (Nat.not_lt_zero _)
  |succ n=>
   have ih2:=fun(s11:(List Int))=>ih (i+1) s11 n hd2 (Nat.lt_of_succ_lt_succ hn)
   simp only [vak,vlj,vjh,hlt,hz,decide_true,cond_true,and_self,if_true,hy,hw,hnn,Sum.elim_inl,Sum.elim_inr,ih2]
theorem wic {u0} {u3} {u4} {u5} {u6} {u7} {u8} {u9} {u10}(h0:u0.length<9223372036854775807){K:q6T→Option Res}{s11:(List Int)}:vak vlj Fuel (u0,(u0.length:Int),(0:Int),u3,u4,u5,u6,u7,u8,u9,u10,s11) K=vjh u0 u3 u4 u5 u6 u7 u8 u9 u10 u0 s11 0 (fun z=>K (u0,(u0.length:Int),z.1,u3,u4,u5,u6,u7,u8,u9,u10,z.2)):=
 wji h0 u0 0 s11 Fuel rfl (vbu h0)
def vhp (u0:(List vaa))(u3:Int)(u4:Int)(u5:Int)(u6:Int)(u7:(List vad))(u8:(List vaa))(u9:Bool)(u10:ByteArray):List vaa→(List Int)→Nat→((Int×(List Int))→Option Res)→Option Res
 |[],s11,i,k=>
  k ((i:Int),s11)
 |y::l,s11,i,k=>
  vir [y.1,y.2.1] s11 (Sum.elim (fun y1=>
   vjx y.2.2 y1 (fun y2=>
    vhp u0 u3 u4 u5 u6 u7 u8 u9 u10 l y2 (i+1) k)) (fun y3=>
   vjx y.2.2 y3 (fun y4=>
    vhp u0 u3 u4 u5 u6 u7 u8 u9 u10 l y4 (i+1) k)))
theorem wkd {u0} {u3} {u4} {u5} {u6} {u7} {u8} {u9} {u10}(h0:u0.length<9223372036854775807){K:q16T→Option Res}:∀(l:List vaa) (i:Nat) (s11:(List Int)) (n:Nat),u0.drop i=l→l.length<n→vak vja n (u0,(u0.length:Int),(i:Int),u3,u4,u5,u6,u7,u8,u9,u10,s11) K=vhp u0 u3 u4 u5 u6 u7 u8 u9 u10 l s11 i (fun z=>K (u0,(u0.length:Int),z.1,u3,u4,u5,u6,u7,u8,u9,u10,z.2)):=by
 intro l
 induction l with
 |nil=>
  intro i s11 n hd hn
  have hge:=vb9 hd
  cases n with
  |zero=>exact absurd hn (Nat.not_lt_zero _)
  |succ n=>simp only [vak,vja,vhp,hge,decide_false,cond_false,Sum.elim_inr,Sum.elim_inl]
 |cons y l ih=>
  intro i s11 n hd hn
  obtain⟨hlt,hz,hd2,hw,hnn⟩:=vbv hd h0
  have hy:=vbn hd
  cases n with
  |zero=>exact absurd hn (Nat.not_lt_zero _)
  |succ n=>
   have ih2:=fun(s11:(List Int))=>ih (i+1) s11 n hd2 (Nat.lt_of_succ_lt_succ hn)
   simp only [vak,vja,vhp,hlt,hz,decide_true,cond_true,and_self,if_true,hy,hw,hnn,Sum.elim_inl,Sum.elim_inr,ih2]
theorem wjx {u0} {u3} {u4} {u5} {u6} {u7} {u8} {u9} {u10}(h0:u0.length<9223372036854775807){K:q16T→Option Res}{s11:(List Int)}:vak vja Fuel (u0,(u0.length:Int),(0:Int),u3,u4,u5,u6,u7,u8,u9,u10,s11) K=vhp u0 u3 u4 u5 u6 u7 u8 u9 u10 u0 s11 0 (fun z=>K (u0,(u0.length:Int),z.1,u3,u4,u5,u6,u7,u8,u9,u10,z.2)):=
 wkd h0 u0 0 s11 Fuel rfl (vbu h0)
def wd9 (a0:dTxn)(k:(ByteArray×Bool)→Option Res):Option Res:=
 vgp a0 (fun y31=>
  bif (!y31)then
   k ((⟨#[]⟩:ByteArray),false)
  else
   vsm [a0.1,a0.2.1,a0.2.2.1,a0.2.2.2.1,(a0.2.2.2.2.1.length:Int)] (fun y32=>
    vjh a0.2.2.2.2.1 a0.1 a0.2.1 a0.2.2.1 a0.2.2.2.1 a0.2.2.2.2.1 a0.2.2.2.2.2.1 a0.2.2.2.2.2.2.1 a0.2.2.2.2.2.2.2 a0.2.2.2.2.1 y32 0 (fun z33=>
     vw8 [(a0.2.2.2.2.2.1.length:Int)] z33.2 (Sum.elim (fun y34=>
      vhp a0.2.2.2.2.2.1 a0.1 a0.2.1 a0.2.2.1 a0.2.2.2.1 a0.2.2.2.2.1 a0.2.2.2.2.2.1 a0.2.2.2.2.2.2.1 a0.2.2.2.2.2.2.2 a0.2.2.2.2.2.1 y34 0 (fun z35=>
       vjx a0.2.2.2.2.2.2.1 z35.2 (fun y36=>
        vir [a0.2.2.2.2.2.2.2] y36 (Sum.elim (fun y37=>
         k ((va3 y37),true)) (fun y38=>
         k ((va3 y38),true)))))) (fun y39=>
      vhp a0.2.2.2.2.2.1 a0.1 a0.2.1 a0.2.2.1 a0.2.2.2.1 a0.2.2.2.2.1 a0.2.2.2.2.2.1 a0.2.2.2.2.2.2.1 a0.2.2.2.2.2.2.2 a0.2.2.2.2.2.1 y39 0 (fun z40=>
       vjx a0.2.2.2.2.2.2.1 z40.2 (fun y41=>
        vir [a0.2.2.2.2.2.2.2] y41 (Sum.elim (fun y42=>
         k ((va3 y42),true)) (fun y43=>
         k ((va3 y43),true))))))))))
theorem wqm {a0:dTxn}(h0:a0.2.2.2.2.2.1.length<9223372036854775807)(h1:a0.2.2.2.2.1.length<9223372036854775807){k:(ByteArray×Bool)→Option Res}:vrw a0 k=wd9 a0 k:=by
 rw [wgw]
 simp only [v7j,wd9,(wjx h0),(wic h1),Sum.elim_inl,Sum.elim_inr]
def vk7 (u0:ByteArray)(u1:Bool):List Int→Nat→(((Bool×Int)⊕Int)→Option Res)→Option Res
 |[],i,k=>
  k (.inr (i:Int))
 |y::l,i,k=>
  bif (decide (y<(97:Int)))then
   k (.inl (false,(i:Int)))
  else
   bif (decide (y>(122:Int)))then
    k (.inl (false,(i:Int)))
   else
    vk7 u0 u1 l (i+1) k
theorem wkm {u0} {u1}(h0:u0.size<9223372036854775807){K:((ByteArray×Bool×Int)⊕(ByteArray×Bool×Int))→Option Res}:∀(l:List Int) (i:Nat)  (n:Nat),(vaf u0).drop i=l→l.length<n→vak vkp n (u0,u1,(i:Int)) K=vk7 u0 u1 l  i (Sum.elim (fun z=>K (.inl (u0,z.1,z.2))) (fun z=>K (.inr (u0,u1,z)))):=by
 intro l
 induction l with
 |nil=>
  intro i  n hd hn
  have hge:=vzn hd
  cases n with
  |zero=>exact absurd hn (Nat.not_lt_zero _)
  |succ n=>simp only [vak,vkp,vk7,hge,decide_false,cond_false,Sum.elim_inr,Sum.elim_inl]
 |cons y l ih=>
  intro i  n hd hn
  obtain⟨hlt,hz,hd2,hw,hnn⟩:=v8n hd h0
  have hy:=v3w hd
  cases n with
  |zero=>exact absurd hn (Nat.not_lt_zero _)
  |succ n=>
   have ih2:=ih (i+1)  n hd2 (Nat.lt_of_succ_lt_succ hn)
   simp only [vak,vkp,vk7,hlt,hz,decide_true,cond_true,and_self,if_true,hy,hw,hnn,Sum.elim_inl,Sum.elim_inr,ih2]
theorem wj4 {u0} {u1}(h0:u0.size<9223372036854775807){K:((ByteArray×Bool×Int)⊕(ByteArray×Bool×Int))→Option Res}  : vak vkp Fuel (u0,u1,(0:Int)) K=vk7 u0 u1 (vaf u0)  0 (Sum.elim (fun z=>K (.inl (u0,z.1,z.2))) (fun z=>K (.inr (u0,u1,z)))):=
 wkm h0 (vaf u0) 0  Fuel rfl (v60 h0)
def wco (a0:ByteArray)(k:Bool→Option Res):Option Res:=
 vk7 a0 false (vaf a0)  0 (Sum.elim (fun z31=>
  k z31.1) (fun _=>
  vgs (a0.size:Int) (1:Int) (3:Int) (fun y33=>
   k y33)))
theorem wre {a0:ByteArray}(h0:a0.size<9223372036854775807){k:Bool→Option Res}:vmq a0 k=wco a0 k:=by
 rw [wbz]
 simp only [v8b,wco,(wj4 h0),Sum.elim_inl,Sum.elim_inr]
def vjt (u0:(List vaa))(u1:Bool):List vaa→Nat→(((Bool×Int)⊕Int)→Option Res)→Option Res
 |[],i,k=>
  k (.inr (i:Int))
 |y::l,i,k=>
  vp4 y (fun y1=>
   bif (!y1)then
    k (.inl (false,(i:Int)))
   else
    bif (decide ((i:Int)>(0:Int)))then
     if 0≤(IntKind.wrap .i64 ((i:Int)-(1:Int)))∧(IntKind.wrap .i64 ((i:Int)-(1:Int)))<(u0.length:Int)then
      bif (!(vai ((rd (Ty.zero tWrite) u0 (IntKind.wrap .i64 ((i:Int)-(1:Int)))).1) (y.1)))then
       k (.inl (false,(i:Int)))
      else
       vjt u0 u1 l (i+1) k
     else none
    else
     vjt u0 u1 l (i+1) k)
theorem whh {u0} {u1}(h0:u0.length<9223372036854775807){K:(((List vaa)×Bool×Int)⊕((List vaa)×Bool×Int))→Option Res}:∀(l:List vaa) (i:Nat)  (n:Nat),u0.drop i=l→l.length<n→vak vkh n (u0,u1,(i:Int)) K=vjt u0 u1 l  i (Sum.elim (fun z=>K (.inl (u0,z.1,z.2))) (fun z=>K (.inr (u0,u1,z)))):=by
 intro l
 induction l with
 |nil=>
  intro i  n hd hn
  have hge:=vb9 hd
  cases n with
  |zero=>exact absurd hn (Nat.not_lt_zero _)
  |succ n=>simp only [vak,vkh,vjt,hge,decide_false,cond_false,Sum.elim_inr,Sum.elim_inl]
 |cons y l ih=>
  intro i  n hd hn
  obtain⟨hlt,hz,hd2,hw,hnn⟩:=vbv hd h0
  have hy:=vbn hd
  cases n with
  |zero=>exact absurd hn (Nat.not_lt_zero _)
  |succ n=>
   have ih2:=ih (i+1)  n hd2 (Nat.lt_of_succ_lt_succ hn)
   simp only [vak,vkh,vjt,hlt,hz,decide_true,cond_true,and_self,if_true,hy,hw,hnn,Sum.elim_inl,Sum.elim_inr,ih2]
theorem wjh {u0} {u1}(h0:u0.length<9223372036854775807){K:(((List vaa)×Bool×Int)⊕((List vaa)×Bool×Int))→Option Res}  : vak vkh Fuel (u0,u1,(0:Int)) K=vjt u0 u1 u0  0 (Sum.elim (fun z=>K (.inl (u0,z.1,z.2))) (fun z=>K (.inr (u0,u1,z)))):=
 whh h0 u0 0  Fuel rfl (vbu h0)
def wfu (a0:(List vaa))(k:Bool→Option Res):Option Res:=
 vjt a0 false a0  0 (Sum.elim (fun z31=>
  k z31.1) (fun _=>
  k (decide ((a0.length:Int)≤(8:Int)))))
theorem wsa {a0:(List vaa)}(h0:a0.length<9223372036854775807){k:Bool→Option Res}:vny a0 k=wfu a0 k:=by
 rw [wcn]
 simp only [v5y,wfu,(wjh h0),Sum.elim_inl,Sum.elim_inr]
def vcn (u0:Bool)(u1:Int)(u2:Int)(u3:Int)(u4:Int)(u5:(List vad))(u6:(List vaa))(u7:Bool)(u8:ByteArray)(k:Bool→Option Res):Option Res:=
  bif (u2 != (1:Int))then
   k true
  else
   k (!u7)
theorem vt5 {u0} {u1} {u2} {u3} {u4} {u5} {u6} {u7} {u8}  {K:q24T→Option Res}:vb2 (u0,u1,u2,u3,u4,u5,u6,u7,u8) K=vcn u0 u1 u2 u3 u4 u5 u6 u7 u8 (fun z=>K (z,u1,u2,u3,u4,u5,u6,u7,u8)):=by
 simp only [vb2,vcn,Sum.elim_inl,Sum.elim_inr]
def vcp (u0:Bool)(u1:Int)(u2:Int)(u3:Int)(u4:Int)(u5:(List vad))(u6:(List vaa))(u7:Bool)(u8:ByteArray)(k:Bool→Option Res):Option Res:=
  bif (u2==(2:Int))then
   vmq u8 (fun y1=>
    bif (!y1)then
     k false
    else
     bif (u2 != (2:Int))then
      bif (!(vav u8 (⟨#[]⟩:ByteArray)))then
       k false
      else
       vcn u0 u1 u2 u3 u4 u5 u6 u7 u8 (fun z2=>
        k z2)
     else
      vcn u0 u1 u2 u3 u4 u5 u6 u7 u8 (fun z3=>
       k z3))
  else
   bif (u2 != (2:Int))then
    bif (!(vav u8 (⟨#[]⟩:ByteArray)))then
     k false
    else
     vcn u0 u1 u2 u3 u4 u5 u6 u7 u8 (fun z4=>
      k z4)
   else
    vcn u0 u1 u2 u3 u4 u5 u6 u7 u8 (fun z5=>
     k z5)
theorem vtu {u0} {u1} {u2} {u3} {u4} {u5} {u6} {u7} {u8}  {K:q24T→Option Res}:vb4 (u0,u1,u2,u3,u4,u5,u6,u7,u8) K=vcp u0 u1 u2 u3 u4 u5 u6 u7 u8 (fun z=>K (z,u1,u2,u3,u4,u5,u6,u7,u8)):=by
 simp only [vb4,vcp,vt5,Sum.elim_inl,Sum.elim_inr]
def vko (u0:Bool)(u2:Int)(u3:Int)(u4:Int)(u5:Int)(u6:(List vad))(u7:(List vaa))(u8:Bool)(u9:ByteArray):List vad→Nat→(((Bool×Int)⊕Int)→Option Res)→Option Res
 |[],i,k=>
  k (.inr (i:Int))
 |y::l,i,k=>
  vp8 y (fun y1=>
   bif (!y1)then
    k (.inl (false,(i:Int)))
   else
    vko u0 u2 u3 u4 u5 u6 u7 u8 u9 l (i+1) k)
theorem wh4 {u0} {u2} {u3} {u4} {u5} {u6} {u7} {u8} {u9}(h0:u6.length<9223372036854775807){K:(q29T⊕q29T)→Option Res}:∀(l:List vad) (i:Nat)  (n:Nat),u6.drop i=l→l.length<n→vak vlm n (u0,(i:Int),u2,u3,u4,u5,u6,u7,u8,u9) K=vko u0 u2 u3 u4 u5 u6 u7 u8 u9 l  i (Sum.elim (fun z=>K (.inl (z.1,z.2,u2,u3,u4,u5,u6,u7,u8,u9))) (fun z=>K (.inr (u0,z,u2,u3,u4,u5,u6,u7,u8,u9)))):=by
 intro l
 induction l with
 |nil=>
  intro i  n hd hn
  have hge:=vb9 hd
  cases n with
  |zero=>exact absurd hn (Nat.not_lt_zero _)
  |succ n=>simp only [vak,vlm,vko,hge,decide_false,cond_false,Sum.elim_inr,Sum.elim_inl]
 |cons y l ih=>
  intro i  n hd hn
  obtain⟨hlt,hz,hd2,hw,hnn⟩:=vbv hd h0
  have hy:=vbn hd
  cases n with
  |zero=>exact absurd hn (Nat.not_lt_zero _)
  |succ n=>
   have ih2:=ih (i+1)  n hd2 (Nat.lt_of_succ_lt_succ hn)
   simp only [vak,vlm,vko,hlt,hz,decide_true,cond_true,and_self,if_true,hy,hw,hnn,Sum.elim_inl,Sum.elim_inr,ih2]
theorem wjk {u0} {u2} {u3} {u4} {u5} {u6} {u7} {u8} {u9}(h0:u6.length<9223372036854775807){K:(q29T⊕q29T)→Option Res}  : vak vlm Fuel (u0,(0:Int),u2,u3,u4,u5,u6,u7,u8,u9) K=vko u0 u2 u3 u4 u5 u6 u7 u8 u9 u6  0 (Sum.elim (fun z=>K (.inl (z.1,z.2,u2,u3,u4,u5,u6,u7,u8,u9))) (fun z=>K (.inr (u0,z,u2,u3,u4,u5,u6,u7,u8,u9)))):=
 wh4 h0 u6 0  Fuel rfl (vbu h0)
def vfj (u0:Bool)(u1:Int)(u2:Int)(u3:Int)(u4:Int)(u5:(List vad))(u6:(List vaa))(u7:Bool)(u8:ByteArray)(k:Bool→Option Res):Option Res:=
  vko u0 u1 u2 u3 u4 u5 u6 u7 u8 u5  0 (Sum.elim (fun z1=>
   k z1.1) (fun _=>
   bif (u2==(3:Int))then
    vgs u4 (IntKind.wrap .i64 (u3+(1:Int))) (9999:Int) (fun y3=>
     bif (!y3)then
      k false
     else
      bif (u2 != (3:Int))then
       bif (u4 != (0:Int))then
        k false
       else
        vcp u0 u1 u2 u3 u4 u5 u6 u7 u8 (fun z4=>
         k z4)
      else
       vcp u0 u1 u2 u3 u4 u5 u6 u7 u8 (fun z5=>
        k z5))
   else
    bif (u2 != (3:Int))then
     bif (u4 != (0:Int))then
      k false
     else
      vcp u0 u1 u2 u3 u4 u5 u6 u7 u8 (fun z6=>
       k z6)
    else
     vcp u0 u1 u2 u3 u4 u5 u6 u7 u8 (fun z7=>
      k z7)))
theorem vt0 {u0} {u1} {u2} {u3} {u4} {u5} {u6} {u7} {u8}(h0:u5.length<9223372036854775807){K:q24T→Option Res}:vdm (u0,u1,u2,u3,u4,u5,u6,u7,u8) K=vfj u0 u1 u2 u3 u4 u5 u6 u7 u8 (fun z=>K (z,u1,u2,u3,u4,u5,u6,u7,u8)):=by
 simp only [vdm,vfj,vtu,(wjk h0),Sum.elim_inl,Sum.elim_inr]
def wew (a0:dTxn)(k:Bool→Option Res):Option Res:=
 vgs a0.1 (1:Int) (9999:Int) (fun y31=>
  bif (!y31)then
   k false
  else
   vgs a0.2.1 (1:Int) (3:Int) (fun y32=>
    bif (!y32)then
     k false
    else
     vgs a0.2.2.1 (0:Int) (9999:Int) (fun y33=>
      bif (!y33)then
       k false
      else
       bif (decide ((a0.2.2.2.2.1.length:Int)>(8:Int)))then
        k false
       else
        vny a0.2.2.2.2.2.1 (fun y34=>
         bif (!y34)then
          k false
         else
          vfj false a0.1 a0.2.1 a0.2.2.1 a0.2.2.2.1 a0.2.2.2.2.1 a0.2.2.2.2.2.1 a0.2.2.2.2.2.2.1 a0.2.2.2.2.2.2.2 (fun z35=>
           k z35)))))
theorem wpw {a0:dTxn}(h0:a0.2.2.2.2.1.length<9223372036854775807){k:Bool→Option Res}:vi3 a0 k=wew a0 k:=by
 rw [wcv]
 simp only [v57,wew,(vt0 h0),Sum.elim_inl,Sum.elim_inr]
def vle (u2:Int)(u3:Int)(u4:Int)(u5:Int)(u6:(List vad))(u7:(List vaa))(u8:Bool)(u9:ByteArray):List vad→ByteArray→Nat→((ByteArray×Int)→Option Res)→Option Res
 |[],s0,i,k=>
  k (s0,(i:Int))
 |y::l,s0,i,k=>
  vg9 y.1 (fun y1=>
   if s0.size+y1.size≤1099511627776 then
    vg9 y.2 (fun y2=>
     if(s0++y1).size+y2.size≤1099511627776 then
      vle u2 u3 u4 u5 u6 u7 u8 u9 l ((s0++y1)++y2) (i+1) k
     else none)
   else none)
theorem wkn {u2} {u3} {u4} {u5} {u6} {u7} {u8} {u9}(h0:u6.length<9223372036854775807){K:q38T→Option Res}:∀(l:List vad) (i:Nat) (s0:ByteArray) (n:Nat),u6.drop i=l→l.length<n→vak vlo n (s0,(i:Int),u2,u3,u4,u5,u6,u7,u8,u9) K=vle u2 u3 u4 u5 u6 u7 u8 u9 l s0 i (fun z=>K (z.1,z.2,u2,u3,u4,u5,u6,u7,u8,u9)):=by
 intro l
 induction l with
 |nil=>
  intro i s0 n hd hn
  have hge:=vb9 hd
  cases n with
  |zero=>exact absurd hn (Nat.not_lt_zero _)
  |succ n=>simp only [vak,vlo,vle,hge,decide_false,cond_false,Sum.elim_inr,Sum.elim_inl]
 |cons y l ih=>
  intro i s0 n hd hn
  obtain⟨hlt,hz,hd2,hw,hnn⟩:=vbv hd h0
  have hy:=vbn hd
  cases n with
  |zero=>exact absurd hn (Nat.not_lt_zero _)
  |succ n=>
   have ih2:=fun(s0:ByteArray)=>ih (i+1) s0 n hd2 (Nat.lt_of_succ_lt_succ hn)
   simp only [vak,vlo,vle,hlt,hz,decide_true,cond_true,and_self,if_true,hy,hw,hnn,Sum.elim_inl,Sum.elim_inr,ih2]
theorem wif {u2} {u3} {u4} {u5} {u6} {u7} {u8} {u9}(h0:u6.length<9223372036854775807){K:q38T→Option Res}{s0:ByteArray}:vak vlo Fuel (s0,(0:Int),u2,u3,u4,u5,u6,u7,u8,u9) K=vle u2 u3 u4 u5 u6 u7 u8 u9 u6 s0 0 (fun z=>K (z.1,z.2,u2,u3,u4,u5,u6,u7,u8,u9)):=
 wkn h0 u6 0 s0 Fuel rfl (vbu h0)
def vj7 (u2:Int)(u3:Int)(u4:Int)(u5:Int)(u6:(List vad))(u7:(List vaa))(u8:Bool)(u9:ByteArray):List vaa→ByteArray→Nat→((ByteArray×Int)→Option Res)→Option Res
 |[],s0,i,k=>
  k (s0,(i:Int))
 |y::l,s0,i,k=>
  vg9 y.1 (fun y1=>
   if s0.size+y1.size≤1099511627776 then
    vg9 y.2.1 (fun y2=>
     if(s0++y1).size+y2.size≤1099511627776 then
      vp7 y.2.2 (fun y3=>
       if((s0++y1)++y2).size+y3.size≤1099511627776 then
        vj7 u2 u3 u4 u5 u6 u7 u8 u9 l (((s0++y1)++y2)++y3) (i+1) k
       else none)
     else none)
   else none)
theorem whd {u2} {u3} {u4} {u5} {u6} {u7} {u8} {u9}(h0:u7.length<9223372036854775807){K:q38T→Option Res}:∀(l:List vaa) (i:Nat) (s0:ByteArray) (n:Nat),u7.drop i=l→l.length<n→vak vkl n (s0,(i:Int),u2,u3,u4,u5,u6,u7,u8,u9) K=vj7 u2 u3 u4 u5 u6 u7 u8 u9 l s0 i (fun z=>K (z.1,z.2,u2,u3,u4,u5,u6,u7,u8,u9)):=by
 intro l
 induction l with
 |nil=>
  intro i s0 n hd hn
  have hge:=vb9 hd
  cases n with
  |zero=>exact absurd hn (Nat.not_lt_zero _)
  |succ n=>simp only [vak,vkl,vj7,hge,decide_false,cond_false,Sum.elim_inr,Sum.elim_inl]
 |cons y l ih=>
  intro i s0 n hd hn
  obtain⟨hlt,hz,hd2,hw,hnn⟩:=vbv hd h0
  have hy:=vbn hd
  cases n with
  |zero=>exact absurd hn (Nat.not_lt_zero _)
  |succ n=>
   have ih2:=fun(s0:ByteArray)=>ih (i+1) s0 n hd2 (Nat.lt_of_succ_lt_succ hn)
   simp only [vak,vkl,vj7,hlt,hz,decide_true,cond_true,and_self,if_true,hy,hw,hnn,Sum.elim_inl,Sum.elim_inr,ih2]
theorem wj0 {u2} {u3} {u4} {u5} {u6} {u7} {u8} {u9}(h0:u7.length<9223372036854775807){K:q38T→Option Res}{s0:ByteArray}:vak vkl Fuel (s0,(0:Int),u2,u3,u4,u5,u6,u7,u8,u9) K=vj7 u2 u3 u4 u5 u6 u7 u8 u9 u7 s0 0 (fun z=>K (z.1,z.2,u2,u3,u4,u5,u6,u7,u8,u9)):=
 whd h0 u7 0 s0 Fuel rfl (vbu h0)
def wfa (a0:dTxn)(k:(ByteArray×Bool)→Option Res):Option Res:=
 vi3 a0 (fun y31=>
  bif (!y31)then
   k ((⟨#[]⟩:ByteArray),false)
  else
   vez a0.1 (fun y32=>
    vez a0.2.1 (fun y33=>
     if y32.size+y33.size≤1099511627776 then
      vez a0.2.2.1 (fun y34=>
       if(y32++y33).size+y34.size≤1099511627776 then
        vez a0.2.2.2.1 (fun y35=>
         if((y32++y33)++y34).size+y35.size≤1099511627776 then
          vez (a0.2.2.2.2.1.length:Int) (fun y36=>
           if(((y32++y33)++y34)++y35).size+y36.size≤1099511627776 then
            vle a0.1 a0.2.1 a0.2.2.1 a0.2.2.2.1 a0.2.2.2.2.1 a0.2.2.2.2.2.1 a0.2.2.2.2.2.2.1 a0.2.2.2.2.2.2.2 a0.2.2.2.2.1 ((((y32++y33)++y34)++y35)++y36) 0 (fun z37=>
             vez (a0.2.2.2.2.2.1.length:Int) (fun y38=>
              if z37.1.size+y38.size≤1099511627776 then
               vj7 a0.1 a0.2.1 a0.2.2.1 a0.2.2.2.1 a0.2.2.2.2.1 a0.2.2.2.2.2.1 a0.2.2.2.2.2.2.1 a0.2.2.2.2.2.2.2 a0.2.2.2.2.2.1 (z37.1++y38) 0 (fun z39=>
                vp7 a0.2.2.2.2.2.2.1 (fun y40=>
                 if z39.1.size+y40.size≤1099511627776 then
                  vg9 a0.2.2.2.2.2.2.2 (fun y41=>
                   if(z39.1++y40).size+y41.size≤1099511627776 then
                    k (((z39.1++y40)++y41),true)
                   else none)
                 else none))
              else none))
           else none)
         else none)
       else none)
     else none)))
theorem wq3 {a0:dTxn}(h0:a0.2.2.2.2.2.1.length<9223372036854775807)(h1:a0.2.2.2.2.1.length<9223372036854775807){k:(ByteArray×Bool)→Option Res}:vq8 a0 k=wfa a0 k:=by
 rw [wgo]
 simp only [v9a,wfa,(wj0 h0),(wif h1),Sum.elim_inl,Sum.elim_inr]
def vlw (u0:(List vad))(u1:Int)(u4:ByteArray)(u5:ByteArray):List vad→Nat→(((Int×Int)⊕Int)→Option Res)→Option Res
 |[],i,k=>
  k (.inr (i:Int))
 |y::l,i,k=>
  bif (Ty.eqB tRange (u4,u5) y)then
   k (.inl ((i:Int),(i:Int)))
  else
   vlw u0 u1 u4 u5 l (i+1) k
theorem wit {u0} {u1} {u4} {u5}(h0:u0.length<9223372036854775807){K:(q5T⊕q5T)→Option Res}:∀(l:List vad) (i:Nat)  (n:Nat),u0.drop i=l→l.length<n→vak vki n (u0,u1,(u0.length:Int),(i:Int),u4,u5) K=vlw u0 u1 u4 u5 l  i (Sum.elim (fun z=>K (.inl (u0,z.1,(u0.length:Int),z.2,u4,u5))) (fun z=>K (.inr (u0,u1,(u0.length:Int),z,u4,u5)))):=by
 intro l
 induction l with
 |nil=>
  intro i  n hd hn
  have hge:=vb9 hd
  cases n with
  |zero=>exact absurd hn (Nat.not_lt_zero _)
  |succ n=>simp only [vak,vki,vlw,hge,decide_false,cond_false,Sum.elim_inr,Sum.elim_inl]
 |cons y l ih=>
  intro i  n hd hn
  obtain⟨hlt,hz,hd2,hw,hnn⟩:=vbv hd h0
  have hy:=vbn hd
  cases n with
  |zero=>exact absurd hn (Nat.not_lt_zero _)
  |succ n=>
   have ih2:=ih (i+1)  n hd2 (Nat.lt_of_succ_lt_succ hn)
   simp only [vak,vki,vlw,hlt,hz,decide_true,cond_true,and_self,if_true,hy,hw,hnn,Sum.elim_inl,Sum.elim_inr,ih2]
theorem whr {u0} {u1} {u4} {u5}(h0:u0.length<9223372036854775807){K:(q5T⊕q5T)→Option Res}  : vak vki Fuel (u0,u1,(u0.length:Int),(0:Int),u4,u5) K=vlw u0 u1 u4 u5 u0  0 (Sum.elim (fun z=>K (.inl (u0,z.1,(u0.length:Int),z.2,u4,u5))) (fun z=>K (.inr (u0,u1,(u0.length:Int),z,u4,u5)))):=
 wit h0 u0 0  Fuel rfl (vbu h0)
def wfr (a0:(List vad))(a1:vad)(k:Int→Option Res):Option Res:=
 vlw a0 (0:Int) a1.1 a1.2 a0  0 (Sum.elim (fun z31=>
  k z31.1) (fun _=>
  k (-1:Int)))
theorem wrp {a0:(List vad)}{a1:vad}(h0:a0.length<9223372036854775807){k:Int→Option Res}:v23 a0 a1 k=wfr a0 a1 k:=by
 rw [wck]
 simp only [v6v,wfr,(whr h0),Sum.elim_inl,Sum.elim_inr]
def vfk (u0:Bool)(u1:Int)(u2:Int)(u3:Int)(u4:Int)(u5:(List vad))(u6:(List vaa))(u7:Bool)(u8:ByteArray)(u9:ByteArray)(u10:ByteArray)(u11:Int)(u12:Int)(u13:Int)(u14:Int)(u15:Bool)(u16:ByteArray)(u17:Int)(u18:Int)(u19:Int)(u20:Int)(u21:Bool)(u22:ByteArray)(u23:(List vad))(u24:(List vaa))(u25:(List vad))(u26:(List vaa))(k:(Bool×(List vad))→Option Res):Option Res:=
  vwl u5 (u9,u10) (fun y1=>
   bif y1 then
    k (true,u25)
   else
    bif ((u5.length:Int)==(8:Int))then
     k (false,u25)
    else
     if u25.length+[(u9,u10)].length≤VE.maxLen then
      k (true,(u25++[(u9,u10)]))
     else none)
theorem vu2 {u0} {u1} {u2} {u3} {u4} {u5} {u6} {u7} {u8} {u9} {u10} {u11} {u12} {u13} {u14} {u15} {u16} {u17} {u18} {u19} {u20} {u21} {u22} {u23} {u24} {u25} {u26}  {K:q22T→Option Res}:vdk (u0,u1,u2,u3,u4,u5,u6,u7,u8,u9,u10,u11,u12,u13,u14,u15,u16,u17,u18,u19,u20,u21,u22,u23,u24,u25,u26) K=vfk u0 u1 u2 u3 u4 u5 u6 u7 u8 u9 u10 u11 u12 u13 u14 u15 u16 u17 u18 u19 u20 u21 u22 u23 u24 u25 u26 (fun z=>K (z.1,u1,u2,u3,u4,u5,u6,u7,u8,u9,u10,u17,u18,u19,u20,u21,u22,u17,u18,u19,u20,u21,u22,z.2,u26)):=by
 simp only [vdk,vfk,Sum.elim_inl,Sum.elim_inr]
def wey (a0:dTxn)(a1:vad)(k:q50T→Option Res):Option Res:=
 vmy a0 (fun y31=>
  vgp a0 (fun y32=>
   bif (!y32)then
    k (y31.1,y31.2.1,y31.2.2.1,y31.2.2.2.1,y31.2.2.2.2.1,y31.2.2.2.2.2.1,false,y31.2.2.2.2.2.2.1,y31.2.2.2.2.2.2.2)
   else
    bif (a0.2.1 != (1:Int))then
     k (y31.1,y31.2.1,y31.2.2.1,y31.2.2.2.1,y31.2.2.2.2.1,y31.2.2.2.2.2.1,false,y31.2.2.2.2.2.2.1,y31.2.2.2.2.2.2.2)
    else
     vqe a1 (fun y33=>
      bif (!y33)then
       k (y31.1,y31.2.1,y31.2.2.1,y31.2.2.2.1,y31.2.2.2.2.1,y31.2.2.2.2.2.1,false,y31.2.2.2.2.2.2.1,y31.2.2.2.2.2.2.2)
      else
       vfk false a0.1 a0.2.1 a0.2.2.1 a0.2.2.2.1 a0.2.2.2.2.1 a0.2.2.2.2.2.1 a0.2.2.2.2.2.2.1 a0.2.2.2.2.2.2.2 a1.1 a1.2 (0:Int) (0:Int) (0:Int) (0:Int) false (⟨#[]⟩:ByteArray) y31.1 y31.2.1 y31.2.2.1 y31.2.2.2.1 y31.2.2.2.2.1 y31.2.2.2.2.2.1 ([]:List vad) ([]:List vaa) y31.2.2.2.2.2.2.1 y31.2.2.2.2.2.2.2 (fun z34=>
        k (y31.1,y31.2.1,y31.2.2.1,y31.2.2.2.1,y31.2.2.2.2.1,y31.2.2.2.2.2.1,z34.1,z34.2,y31.2.2.2.2.2.2.2)))))
theorem wrw {a0:dTxn}{a1:vad}  {k:q50T→Option Res}:vvy a0 a1 k=wey a0 a1 k:=by
 rw [wca]
 simp only [v7v,wey,vu2,Sum.elim_inl,Sum.elim_inr]
def vkf (u0:Bool)(u2:Int)(u3:Int)(u4:Int)(u5:Int)(u6:(List vad))(u7:(List vaa))(u8:Bool)(u9:ByteArray)(u10:ByteArray)(u11:ByteArray)(u12:Int)(u13:Int)(u14:Int)(u15:Int)(u16:Bool)(u17:ByteArray)(u18:Int)(u19:Int)(u20:Int)(u21:Int)(u22:Bool)(u23:ByteArray)(u24:(List vad))(u25:(List vaa))(u26:(List vad))(u27:(List vaa)):List vad→Nat→((Int⊕(Bool×Int))→Option Res)→Option Res
 |[],i,k=>
  k (.inl (i:Int))
 |y::l,i,k=>
  bif (Ty.eqB tRange y (u10,u11))then
   k (.inr (true,(i:Int)))
  else
   vkf u0 u2 u3 u4 u5 u6 u7 u8 u9 u10 u11 u12 u13 u14 u15 u16 u17 u18 u19 u20 u21 u22 u23 u24 u25 u26 u27 l (i+1) k
theorem wib {u0} {u2} {u3} {u4} {u5} {u6} {u7} {u8} {u9} {u10} {u11} {u12} {u13} {u14} {u15} {u16} {u17} {u18} {u19} {u20} {u21} {u22} {u23} {u24} {u25} {u26} {u27}(h0:u6.length<9223372036854775807){K:(q26T⊕q27T)→Option Res}:∀(l:List vad) (i:Nat)  (n:Nat),u6.drop i=l→l.length<n→vak vkg n (u0,(i:Int),u2,u3,u4,u5,u6,u7,u8,u9,u10,u11,u12,u13,u14,u15,u16,u17,u18,u19,u20,u21,u22,u23,u24,u25,u26,u27) K=vkf u0 u2 u3 u4 u5 u6 u7 u8 u9 u10 u11 u12 u13 u14 u15 u16 u17 u18 u19 u20 u21 u22 u23 u24 u25 u26 u27 l  i (Sum.elim (fun z=>K (.inl (u0,z,u2,u3,u4,u5,u6,u7,u8,u9,u10,u11,u12,u13,u14,u15,u16,u17,u18,u19,u20,u21,u22,u23,u24,u25,u26,u27))) (fun z=>K (.inr (z.1,z.2,u2,u3,u4,u5,u6,u7,u8,u9,u10,u11,u18,u19,u20,u21,u22,u23,u18,u19,u20,u21,u22,u23,u26,u27)))):=by
 intro l
 induction l with
 |nil=>
  intro i  n hd hn
  have hge:=vb9 hd
  cases n with
  |zero=>exact absurd hn (Nat.not_lt_zero _)
  |succ n=>simp only [vak,vkg,vkf,hge,decide_false,cond_false,Sum.elim_inr,Sum.elim_inl]
 |cons y l ih=>
  intro i  n hd hn
  obtain⟨hlt,hz,hd2,hw,hnn⟩:=vbv hd h0
  have hy:=vbn hd
  cases n with
  |zero=>exact absurd hn (Nat.not_lt_zero _)
  |succ n=>
   have ih2:=ih (i+1)  n hd2 (Nat.lt_of_succ_lt_succ hn)
   simp only [vak,vkg,vkf,hlt,hz,decide_true,cond_true,and_self,if_true,hy,hw,hnn,Sum.elim_inl,Sum.elim_inr,ih2]
theorem whp {u0} {u2} {u3} {u4} {u5} {u6} {u7} {u8} {u9} {u10} {u11} {u12} {u13} {u14} {u15} {u16} {u17} {u18} {u19} {u20} {u21} {u22} {u23} {u24} {u25} {u26} {u27}(h0:u6.length<9223372036854775807){K:(q26T⊕q27T)→Option Res}  : vak vkg Fuel (u0,(0:Int),u2,u3,u4,u5,u6,u7,u8,u9,u10,u11,u12,u13,u14,u15,u16,u17,u18,u19,u20,u21,u22,u23,u24,u25,u26,u27) K=vkf u0 u2 u3 u4 u5 u6 u7 u8 u9 u10 u11 u12 u13 u14 u15 u16 u17 u18 u19 u20 u21 u22 u23 u24 u25 u26 u27 u6  0 (Sum.elim (fun z=>K (.inl (u0,z,u2,u3,u4,u5,u6,u7,u8,u9,u10,u11,u12,u13,u14,u15,u16,u17,u18,u19,u20,u21,u22,u23,u24,u25,u26,u27))) (fun z=>K (.inr (z.1,z.2,u2,u3,u4,u5,u6,u7,u8,u9,u10,u11,u18,u19,u20,u21,u22,u23,u18,u19,u20,u21,u22,u23,u26,u27)))):=
 wib h0 u6 0  Fuel rfl (vbu h0)
def vfi (u0:Bool)(u1:Int)(u2:Int)(u3:Int)(u4:Int)(u5:(List vad))(u6:(List vaa))(u7:Bool)(u8:ByteArray)(u9:ByteArray)(u10:ByteArray)(u11:Int)(u12:Int)(u13:Int)(u14:Int)(u15:Bool)(u16:ByteArray)(u17:Int)(u18:Int)(u19:Int)(u20:Int)(u21:Bool)(u22:ByteArray)(u23:(List vad))(u24:(List vaa))(u25:(List vad))(u26:(List vaa))(k:(Bool×(List vad))→Option Res):Option Res:=
  vkf u0 u1 u2 u3 u4 u5 u6 u7 u8 u9 u10 u11 u12 u13 u14 u15 u16 u17 u18 u19 u20 u21 u22 u23 u24 u25 u26 u5  0 (Sum.elim (fun _=>
   bif (decide ((u5.length:Int)≥(8:Int)))then
    k (false,u25)
   else
    if u25.length+[(u9,u10)].length≤VE.maxLen then
     k (true,(u25++[(u9,u10)]))
    else none) (fun z2=>
   k (z2.1,u25)))
theorem vuk {u0} {u1} {u2} {u3} {u4} {u5} {u6} {u7} {u8} {u9} {u10} {u11} {u12} {u13} {u14} {u15} {u16} {u17} {u18} {u19} {u20} {u21} {u22} {u23} {u24} {u25} {u26}(h0:u5.length<9223372036854775807){K:q22T→Option Res}:vdr (u0,u1,u2,u3,u4,u5,u6,u7,u8,u9,u10,u11,u12,u13,u14,u15,u16,u17,u18,u19,u20,u21,u22,u23,u24,u25,u26) K=vfi u0 u1 u2 u3 u4 u5 u6 u7 u8 u9 u10 u11 u12 u13 u14 u15 u16 u17 u18 u19 u20 u21 u22 u23 u24 u25 u26 (fun z=>K (z.1,u1,u2,u3,u4,u5,u6,u7,u8,u9,u10,u17,u18,u19,u20,u21,u22,u17,u18,u19,u20,u21,u22,z.2,u26)):=by
 simp only [vdr,vfi,(whp h0),Sum.elim_inl,Sum.elim_inr]
def weu (a0:dTxn)(a1:vad)(k:q50T→Option Res):Option Res:=
 vjy a0 (fun y31=>
  vi3 a0 (fun y32=>
   bif (!y32)then
    k (y31.1,y31.2.1,y31.2.2.1,y31.2.2.2.1,y31.2.2.2.2.1,y31.2.2.2.2.2.1,false,y31.2.2.2.2.2.2.1,y31.2.2.2.2.2.2.2)
   else
    bif (a0.2.1 != (1:Int))then
     k (y31.1,y31.2.1,y31.2.2.1,y31.2.2.2.1,y31.2.2.2.2.1,y31.2.2.2.2.2.1,false,y31.2.2.2.2.2.2.1,y31.2.2.2.2.2.2.2)
    else
     vp8 a1 (fun y33=>
      bif (!y33)then
       k (y31.1,y31.2.1,y31.2.2.1,y31.2.2.2.1,y31.2.2.2.2.1,y31.2.2.2.2.2.1,false,y31.2.2.2.2.2.2.1,y31.2.2.2.2.2.2.2)
      else
       vfi false a0.1 a0.2.1 a0.2.2.1 a0.2.2.2.1 a0.2.2.2.2.1 a0.2.2.2.2.2.1 a0.2.2.2.2.2.2.1 a0.2.2.2.2.2.2.2 a1.1 a1.2 (0:Int) (0:Int) (0:Int) (0:Int) false (⟨#[]⟩:ByteArray) y31.1 y31.2.1 y31.2.2.1 y31.2.2.2.1 y31.2.2.2.2.1 y31.2.2.2.2.2.1 ([]:List vad) ([]:List vaa) y31.2.2.2.2.2.2.1 y31.2.2.2.2.2.2.2 (fun z34=>
        k (y31.1,y31.2.1,y31.2.2.1,y31.2.2.2.1,y31.2.2.2.2.1,y31.2.2.2.2.2.1,z34.1,z34.2,y31.2.2.2.2.2.2.2)))))
theorem wpi {a0:dTxn}{a1:vad}(h0:a0.2.2.2.2.1.length<9223372036854775807){k:q50T→Option Res}:vvi a0 a1 k=weu a0 a1 k:=by
 rw [wgh]
 simp only [v5v,weu,(vuk h0),Sum.elim_inl,Sum.elim_inr]
def vfe (u0:Bool)(u1:Int)(u2:Int)(u3:Int)(u4:Int)(u5:(List vad))(u6:(List vaa))(u7:Bool)(u8:ByteArray)(u9:ByteArray)(u10:ByteArray)(u11:Bool)(u12:Int)(u13:Int)(u14:Int)(u15:Int)(u16:Bool)(u17:ByteArray)(u18:Int)(u19:Int)(u20:Int)(u21:Int)(u22:Bool)(u23:ByteArray)(u24:(List vad))(u25:(List vaa))(u26:(List vad))(u27:(List vaa))(k:((Bool×(List vaa))⊕q25T)→Option Res):Option Res:=
  vv9 u6 (u9,(u10,u11)) (fun y1=>
   vgp (u18,(u19,(u20,(u21,(u26,(y1,(u22,u23))))))) (fun y2=>
    bif (!y2)then
     vmy (u1,(u2,(u3,(u4,(u5,(u6,(u7,u8))))))) (fun y3=>
      k (.inr (false,y3.1,y3.2.1,y3.2.2.1,y3.2.2.2.1,y3.2.2.2.2.1,y3.2.2.2.2.2.1,y3.2.2.2.2.2.2.1,y3.2.2.2.2.2.2.2,y1)))
    else
     k (.inl (true,y1))))
theorem vty {u0} {u1} {u2} {u3} {u4} {u5} {u6} {u7} {u8} {u9} {u10} {u11} {u12} {u13} {u14} {u15} {u16} {u17} {u18} {u19} {u20} {u21} {u22} {u23} {u24} {u25} {u26} {u27}  {K:(q20T⊕q19T)→Option Res}:vdt (u0,u1,u2,u3,u4,u5,u6,u7,u8,u9,u10,u11,u12,u13,u14,u15,u16,u17,u18,u19,u20,u21,u22,u23,u24,u25,u26,u27) K=vfe u0 u1 u2 u3 u4 u5 u6 u7 u8 u9 u10 u11 u12 u13 u14 u15 u16 u17 u18 u19 u20 u21 u22 u23 u24 u25 u26 u27 (Sum.elim (fun z=>K (.inl (z.1,u1,u2,u3,u4,u5,u6,u7,u8,u9,u10,u11,u18,u19,u20,u21,u22,u23,u18,u19,u20,u21,u22,u23,u26,z.2))) (fun z=>K (.inr (z.1,u1,u2,u3,u4,u5,u6,u7,u8,u9,u10,u11,z.2.1,z.2.2.1,z.2.2.2.1,z.2.2.2.2.1,z.2.2.2.2.2.1,z.2.2.2.2.2.2.1,u18,u19,u20,u21,u22,u23,z.2.2.2.2.2.2.2.1,z.2.2.2.2.2.2.2.2.1,u26,z.2.2.2.2.2.2.2.2.2)))):=by
 simp only [vdt,vfe,Sum.elim_inl,Sum.elim_inr]
def wcg (a0:dTxn)(a1:vaa)(k:q50T→Option Res):Option Res:=
 vmy a0 (fun y31=>
  vgp a0 (fun y32=>
   bif (!y32)then
    k (y31.1,y31.2.1,y31.2.2.1,y31.2.2.2.1,y31.2.2.2.2.1,y31.2.2.2.2.2.1,false,y31.2.2.2.2.2.2.1,y31.2.2.2.2.2.2.2)
   else
    bif (a0.2.1 != (1:Int))then
     k (y31.1,y31.2.1,y31.2.2.1,y31.2.2.2.1,y31.2.2.2.2.1,y31.2.2.2.2.2.1,false,y31.2.2.2.2.2.2.1,y31.2.2.2.2.2.2.2)
    else
     vp3 a1 (fun y33=>
      bif (!y33)then
       k (y31.1,y31.2.1,y31.2.2.1,y31.2.2.2.1,y31.2.2.2.2.1,y31.2.2.2.2.2.1,false,y31.2.2.2.2.2.2.1,y31.2.2.2.2.2.2.2)
      else
       vfe false a0.1 a0.2.1 a0.2.2.1 a0.2.2.2.1 a0.2.2.2.2.1 a0.2.2.2.2.2.1 a0.2.2.2.2.2.2.1 a0.2.2.2.2.2.2.2 a1.1 a1.2.1 a1.2.2 (0:Int) (0:Int) (0:Int) (0:Int) false (⟨#[]⟩:ByteArray) y31.1 y31.2.1 y31.2.2.1 y31.2.2.2.1 y31.2.2.2.2.1 y31.2.2.2.2.2.1 ([]:List vad) ([]:List vaa) y31.2.2.2.2.2.2.1 y31.2.2.2.2.2.2.2 (Sum.elim (fun z34=>
        k (y31.1,y31.2.1,y31.2.2.1,y31.2.2.2.1,y31.2.2.2.2.1,y31.2.2.2.2.2.1,z34.1,y31.2.2.2.2.2.2.1,z34.2)) (fun z35=>
        k (z35.2.1,z35.2.2.1,z35.2.2.2.1,z35.2.2.2.2.1,z35.2.2.2.2.2.1,z35.2.2.2.2.2.2.1,z35.1,z35.2.2.2.2.2.2.2.1,z35.2.2.2.2.2.2.2.2.1))))))
theorem wra {a0:dTxn}{a1:vaa}  {k:q50T→Option Res}:vvg a0 a1 k=wcg a0 a1 k:=by
 rw [wdl]
 simp only [v7r,wcg,vty,Sum.elim_inl,Sum.elim_inr]
def vfg (u0:Bool)(u1:Int)(u2:Int)(u3:Int)(u4:Int)(u5:(List vad))(u6:(List vaa))(u7:Bool)(u8:ByteArray)(u9:ByteArray)(u10:ByteArray)(u11:Bool)(u12:Int)(u13:Int)(u14:Int)(u15:Int)(u16:Bool)(u17:ByteArray)(u18:Int)(u19:Int)(u20:Int)(u21:Int)(u22:Bool)(u23:ByteArray)(u24:(List vad))(u25:(List vaa))(u26:(List vad))(u27:(List vaa))(k:((Bool×(List vaa))⊕q25T)→Option Res):Option Res:=
  vks u6 (u9,(u10,u11)) (fun y1=>
   vny y1 (fun y2=>
    bif (!y2)then
     vjy (u1,(u2,(u3,(u4,(u5,(u6,(u7,u8))))))) (fun y3=>
      k (.inr (false,y3.1,y3.2.1,y3.2.2.1,y3.2.2.2.1,y3.2.2.2.2.1,y3.2.2.2.2.2.1,y3.2.2.2.2.2.2.1,y3.2.2.2.2.2.2.2,y1)))
    else
     k (.inl (true,y1))))
theorem vuf {u0} {u1} {u2} {u3} {u4} {u5} {u6} {u7} {u8} {u9} {u10} {u11} {u12} {u13} {u14} {u15} {u16} {u17} {u18} {u19} {u20} {u21} {u22} {u23} {u24} {u25} {u26} {u27}  {K:(q20T⊕q19T)→Option Res}:vdh (u0,u1,u2,u3,u4,u5,u6,u7,u8,u9,u10,u11,u12,u13,u14,u15,u16,u17,u18,u19,u20,u21,u22,u23,u24,u25,u26,u27) K=vfg u0 u1 u2 u3 u4 u5 u6 u7 u8 u9 u10 u11 u12 u13 u14 u15 u16 u17 u18 u19 u20 u21 u22 u23 u24 u25 u26 u27 (Sum.elim (fun z=>K (.inl (z.1,u1,u2,u3,u4,u5,u6,u7,u8,u9,u10,u11,u18,u19,u20,u21,u22,u23,u18,u19,u20,u21,u22,u23,u26,z.2))) (fun z=>K (.inr (z.1,u1,u2,u3,u4,u5,u6,u7,u8,u9,u10,u11,z.2.1,z.2.2.1,z.2.2.2.1,z.2.2.2.2.1,z.2.2.2.2.2.1,z.2.2.2.2.2.2.1,u18,u19,u20,u21,u22,u23,z.2.2.2.2.2.2.2.1,z.2.2.2.2.2.2.2.2.1,u26,z.2.2.2.2.2.2.2.2.2)))):=by
 simp only [vdh,vfg,Sum.elim_inl,Sum.elim_inr]
def wc8 (a0:dTxn)(a1:vaa)(k:q50T→Option Res):Option Res:=
 vjy a0 (fun y31=>
  vi3 a0 (fun y32=>
   bif (!y32)then
    k (y31.1,y31.2.1,y31.2.2.1,y31.2.2.2.1,y31.2.2.2.2.1,y31.2.2.2.2.2.1,false,y31.2.2.2.2.2.2.1,y31.2.2.2.2.2.2.2)
   else
    bif (a0.2.1 != (1:Int))then
     k (y31.1,y31.2.1,y31.2.2.1,y31.2.2.2.1,y31.2.2.2.2.1,y31.2.2.2.2.2.1,false,y31.2.2.2.2.2.2.1,y31.2.2.2.2.2.2.2)
    else
     vp4 a1 (fun y33=>
      bif (!y33)then
       k (y31.1,y31.2.1,y31.2.2.1,y31.2.2.2.1,y31.2.2.2.2.1,y31.2.2.2.2.2.1,false,y31.2.2.2.2.2.2.1,y31.2.2.2.2.2.2.2)
      else
       vfg false a0.1 a0.2.1 a0.2.2.1 a0.2.2.2.1 a0.2.2.2.2.1 a0.2.2.2.2.2.1 a0.2.2.2.2.2.2.1 a0.2.2.2.2.2.2.2 a1.1 a1.2.1 a1.2.2 (0:Int) (0:Int) (0:Int) (0:Int) false (⟨#[]⟩:ByteArray) y31.1 y31.2.1 y31.2.2.1 y31.2.2.2.1 y31.2.2.2.2.1 y31.2.2.2.2.2.1 ([]:List vad) ([]:List vaa) y31.2.2.2.2.2.2.1 y31.2.2.2.2.2.2.2 (Sum.elim (fun z34=>
        k (y31.1,y31.2.1,y31.2.2.1,y31.2.2.2.1,y31.2.2.2.2.1,y31.2.2.2.2.2.1,z34.1,y31.2.2.2.2.2.2.1,z34.2)) (fun z35=>
        k (z35.2.1,z35.2.2.1,z35.2.2.2.1,z35.2.2.2.2.1,z35.2.2.2.2.2.1,z35.2.2.2.2.2.2.1,z35.1,z35.2.2.2.2.2.2.2.1,z35.2.2.2.2.2.2.2.2.1))))))
theorem wr8 {a0:dTxn}{a1:vaa}  {k:q50T→Option Res}:vxf a0 a1 k=wc8 a0 a1 k:=by
 rw [wcf]
 simp only [v77,wc8,vuf,Sum.elim_inl,Sum.elim_inr]
def vjo (u0:(List vaa))(u1:Int):List vaa→ByteArray→Nat→(((Int×Int×ByteArray)⊕(Int×ByteArray))→Option Res)→Option Res
 |[],s4,i,k=>
  k (.inr ((i:Int),s4))
 |y::l,s4,i,k=>
  vvn y s4 (fun y1=>
   bif y1.1 then
    k (.inl ((i:Int),(i:Int),y1.2))
   else
    vjo u0 u1 l y1.2 (i+1) k)
theorem wh5 {u0} {u1}(h0:u0.length<9223372036854775807){K:(q15T⊕q15T)→Option Res}:∀(l:List vaa) (i:Nat) (s4:ByteArray) (n:Nat),u0.drop i=l→l.length<n→vak vlc n (u0,u1,(u0.length:Int),(i:Int),s4) K=vjo u0 u1 l s4 i (Sum.elim (fun z=>K (.inl (u0,z.1,(u0.length:Int),z.2.1,z.2.2))) (fun z=>K (.inr (u0,u1,(u0.length:Int),z.1,z.2)))):=by
 intro l
 induction l with
 |nil=>
  intro i s4 n hd hn
  have hge:=vb9 hd
  cases n with
  |zero=>exact absurd hn (Nat.not_lt_zero _)
  |succ n=>simp only [vak,vlc,vjo,hge,decide_false,cond_false,Sum.elim_inr,Sum.elim_inl]
 |cons y l ih=>
  intro i s4 n hd hn
  obtain⟨hlt,hz,hd2,hw,hnn⟩:=vbv hd h0
  have hy:=vbn hd
  cases n with
  |zero=>exact absurd hn (Nat.not_lt_zero _)
  |succ n=>
   have ih2:=fun(s4:ByteArray)=>ih (i+1) s4 n hd2 (Nat.lt_of_succ_lt_succ hn)
   simp only [vak,vlc,vjo,hlt,hz,decide_true,cond_true,and_self,if_true,hy,hw,hnn,Sum.elim_inl,Sum.elim_inr,ih2]
theorem wkl {u0} {u1}(h0:u0.length<9223372036854775807){K:(q15T⊕q15T)→Option Res}{s4:ByteArray}:vak vlc Fuel (u0,u1,(u0.length:Int),(0:Int),s4) K=vjo u0 u1 u0 s4 0 (Sum.elim (fun z=>K (.inl (u0,z.1,(u0.length:Int),z.2.1,z.2.2))) (fun z=>K (.inr (u0,u1,(u0.length:Int),z.1,z.2)))):=
 wh5 h0 u0 0 s4 Fuel rfl (vbu h0)
def wc3 (a0:(List vaa))(a1:ByteArray)(k:(Int×ByteArray)→Option Res):Option Res:=
 vjo a0 (0:Int) a0 a1 0 (Sum.elim (fun z31=>
  k (z31.1,z31.2.2)) (fun z32=>
  k ((-1:Int),z32.2)))
theorem wqe {a0:(List vaa)}{a1:ByteArray}(h0:a0.length<9223372036854775807){k:(Int×ByteArray)→Option Res}:v10 a0 a1 k=wc3 a0 a1 k:=by
 rw [wf1]
 simp only [v9n,wc3,(wkl h0),Sum.elim_inl,Sum.elim_inr]
def vfz (u0:(List vah))(u1:ByteArray)(u2:Int)(u4:(List vah)):List vah→Int→Nat→((Int×Int)→Option Res)→Option Res
 |[],s3,i,k=>
  k (s3,(i:Int))
 |y::l,s3,i,k=>
  bif (vav (y.1) u1)then
   bif (decide (y.2.2.2≤u2))then
    bif (decide (s3<(0:Int)))then
     vfz u0 u1 u2 u4 l (i:Int) (i+1) k
    else
     if 0≤s3∧s3<(u0.length:Int)then
      bif (decide (y.2.2.2>(rd (Ty.zero tVersion) u0 s3).2.2.2))then
       vfz u0 u1 u2 u4 l (i:Int) (i+1) k
      else
       vfz u0 u1 u2 u4 l s3 (i+1) k
     else none
   else
    vfz u0 u1 u2 u4 l s3 (i+1) k
  else
   vfz u0 u1 u2 u4 l s3 (i+1) k
theorem wjz {u0} {u1} {u2} {u4}(h0:u4.length<9223372036854775807){K:q8T→Option Res}:∀(l:List vah) (i:Nat) (s3:Int) (n:Nat),u4.drop i=l→l.length<n→vak vk2 n (u0,u1,u2,s3,u4,(u4.length:Int),(i:Int)) K=vfz u0 u1 u2 u4 l s3 i (fun z=>K (u0,u1,u2,z.1,u4,(u4.length:Int),z.2)):=by
 intro l
 induction l with
 |nil=>
  intro i s3 n hd hn
  have hge:=vb9 hd
  cases n with
  |zero=>exact absurd hn (Nat.not_lt_zero _)
  |succ n=>simp only [vak,vk2,vfz,hge,decide_false,cond_false,Sum.elim_inr,Sum.elim_inl]
 |cons y l ih=>
  intro i s3 n hd hn
  obtain⟨hlt,hz,hd2,hw,hnn⟩:=vbv hd h0
  have hy:=vbn hd
  cases n with
  |zero=>exact absurd hn (Nat.not_lt_zero _)
  |succ n=>
   have ih2:=fun(s3:Int)=>ih (i+1) s3 n hd2 (Nat.lt_of_succ_lt_succ hn)
   simp only [vak,vk2,vfz,hlt,hz,decide_true,cond_true,and_self,if_true,hy,hw,hnn,Sum.elim_inl,Sum.elim_inr,ih2]
theorem wil {u0} {u1} {u2} {u4}(h0:u4.length<9223372036854775807){K:q8T→Option Res}{s3:Int}:vak vk2 Fuel (u0,u1,u2,s3,u4,(u4.length:Int),(0:Int)) K=vfz u0 u1 u2 u4 u4 s3 0 (fun z=>K (u0,u1,u2,z.1,u4,(u4.length:Int),z.2)):=
 wjz h0 u4 0 s3 Fuel rfl (vbu h0)
def wgn (a0:(List vah))(a1:ByteArray)(a2:Int)(k:Int→Option Res):Option Res:=
 vfz a0 a1 a2 a0 a0 (-1:Int) 0 (fun z31=>
  k z31.1)
theorem wqh {a0:(List vah)}{a1:ByteArray}{a2:Int}(h0:a0.length<9223372036854775807){k:Int→Option Res}:vxp a0 a1 a2 k=wgn a0 a1 a2 k:=by
 rw [wfj]
 simp only [v7h,wgn,(wil h0),Sum.elim_inl,Sum.elim_inr]
def vfx (u0:(List vah))(u1:ByteArray)(u2:Int):List vah→Int→Nat→((Int×Int)→Option Res)→Option Res
 |[],s3,i,k=>
  k (s3,(i:Int))
 |y::l,s3,i,k=>
  bif (vav (y.1) u1)then
   bif (decide (y.2.2.2≤u2))then
    bif (decide (s3<(0:Int)))then
     vfx u0 u1 u2 l (i:Int) (i+1) k
    else
     if 0≤s3∧s3<(u0.length:Int)then
      bif (decide (y.2.2.2>(rd (Ty.zero tVersion) u0 s3).2.2.2))then
       vfx u0 u1 u2 l (i:Int) (i+1) k
      else
       vfx u0 u1 u2 l s3 (i+1) k
     else none
   else
    vfx u0 u1 u2 l s3 (i+1) k
  else
   vfx u0 u1 u2 l s3 (i+1) k
theorem wj2 {u0} {u1} {u2}(h0:u0.length<9223372036854775807){K:q9T→Option Res}:∀(l:List vah) (i:Nat) (s3:Int) (n:Nat),u0.drop i=l→l.length<n→vak vlg n (u0,u1,u2,s3,(i:Int)) K=vfx u0 u1 u2 l s3 i (fun z=>K (u0,u1,u2,z.1,z.2)):=by
 intro l
 induction l with
 |nil=>
  intro i s3 n hd hn
  have hge:=vb9 hd
  cases n with
  |zero=>exact absurd hn (Nat.not_lt_zero _)
  |succ n=>simp only [vak,vlg,vfx,hge,decide_false,cond_false,Sum.elim_inr,Sum.elim_inl]
 |cons y l ih=>
  intro i s3 n hd hn
  obtain⟨hlt,hz,hd2,hw,hnn⟩:=vbv hd h0
  have hy:=vbn hd
  cases n with
  |zero=>exact absurd hn (Nat.not_lt_zero _)
  |succ n=>
   have ih2:=fun(s3:Int)=>ih (i+1) s3 n hd2 (Nat.lt_of_succ_lt_succ hn)
   simp only [vak,vlg,vfx,hlt,hz,decide_true,cond_true,and_self,if_true,hy,hw,hnn,Sum.elim_inl,Sum.elim_inr,ih2]
theorem wis {u0} {u1} {u2}(h0:u0.length<9223372036854775807){K:q9T→Option Res}{s3:Int}:vak vlg Fuel (u0,u1,u2,s3,(0:Int)) K=vfx u0 u1 u2 u0 s3 0 (fun z=>K (u0,u1,u2,z.1,z.2)):=
 wj2 h0 u0 0 s3 Fuel rfl (vbu h0)
def wfo (a0:(List vah))(a1:ByteArray)(a2:Int)(k:Int→Option Res):Option Res:=
 vfx a0 a1 a2 a0 (-1:Int) 0 (fun z31=>
  k z31.1)
theorem wpu {a0:(List vah)}{a1:ByteArray}{a2:Int}(h0:a0.length<9223372036854775807){k:Int→Option Res}:vv8 a0 a1 a2 k=wfo a0 a1 a2 k:=by
 rw [wbx]
 simp only [v6w,wfo,(wis h0),Sum.elim_inl,Sum.elim_inr]
def vk3 (u0:(List vah))(u1:ByteArray)(u2:ByteArray)(u3:Bool)(u5:Int)(u6:Int)(u7:Int)(u8:Int)(u9:(List vad))(u10:(List vaa))(u11:Bool)(u12:ByteArray):List vaa→Nat→(((ByteArray×Bool×Int)⊕Int)→Option Res)→Option Res
 |[],i,k=>
  k (.inr (i:Int))
 |y::l,i,k=>
  bif (vav (y.1) u1)then
   bif y.2.2 then
    k (.inl ((⟨#[]⟩:ByteArray),false,(i:Int)))
   else
    k (.inl (y.2.1,true,(i:Int)))
  else
   vk3 u0 u1 u2 u3 u5 u6 u7 u8 u9 u10 u11 u12 l (i+1) k
theorem wim {u0} {u1} {u2} {u3} {u5} {u6} {u7} {u8} {u9} {u10} {u11} {u12}(h0:u10.length<9223372036854775807){K:(q7T⊕q7T)→Option Res}:∀(l:List vaa) (i:Nat)  (n:Nat),u10.drop i=l→l.length<n→vak vkc n (u0,u1,u2,u3,(i:Int),u5,u6,u7,u8,u9,u10,u11,u12) K=vk3 u0 u1 u2 u3 u5 u6 u7 u8 u9 u10 u11 u12 l  i (Sum.elim (fun z=>K (.inl (u0,u1,z.1,z.2.1,z.2.2,u5,u6,u7,u8,u9,u10,u11,u12))) (fun z=>K (.inr (u0,u1,u2,u3,z,u5,u6,u7,u8,u9,u10,u11,u12)))):=by
 intro l
 induction l with
 |nil=>
  intro i  n hd hn
  have hge:=vb9 hd
  cases n with
  |zero=>exact absurd hn (Nat.not_lt_zero _)
  |succ n=>simp only [vak,vkc,vk3,hge,decide_false,cond_false,Sum.elim_inr,Sum.elim_inl]
 |cons y l ih=>
  intro i  n hd hn
  obtain⟨hlt,hz,hd2,hw,hnn⟩:=vbv hd h0
  have hy:=vbn hd
  cases n with
  |zero=>exact absurd hn (Nat.not_lt_zero _)
  |succ n=>
   have ih2:=ih (i+1)  n hd2 (Nat.lt_of_succ_lt_succ hn)
   simp only [vak,vkc,vk3,hlt,hz,decide_true,cond_true,and_self,if_true,hy,hw,hnn,Sum.elim_inl,Sum.elim_inr,ih2]
theorem whe {u0} {u1} {u2} {u3} {u5} {u6} {u7} {u8} {u9} {u10} {u11} {u12}(h0:u10.length<9223372036854775807){K:(q7T⊕q7T)→Option Res}  : vak vkc Fuel (u0,u1,u2,u3,(0:Int),u5,u6,u7,u8,u9,u10,u11,u12) K=vk3 u0 u1 u2 u3 u5 u6 u7 u8 u9 u10 u11 u12 u10  0 (Sum.elim (fun z=>K (.inl (u0,u1,z.1,z.2.1,z.2.2,u5,u6,u7,u8,u9,u10,u11,u12))) (fun z=>K (.inr (u0,u1,u2,u3,z,u5,u6,u7,u8,u9,u10,u11,u12)))):=
 wim h0 u10 0  Fuel rfl (vbu h0)
def wet (a0:dTxn)(a1:(List vah))(a2:ByteArray)(k:(ByteArray×Bool)→Option Res):Option Res:=
 vk3 a1 a2 (⟨#[]⟩:ByteArray) false a0.1 a0.2.1 a0.2.2.1 a0.2.2.2.1 a0.2.2.2.2.1 a0.2.2.2.2.2.1 a0.2.2.2.2.2.2.1 a0.2.2.2.2.2.2.2 a0.2.2.2.2.2.1  0 (Sum.elim (fun z31=>
  k (z31.1,z31.2.1)) (fun _=>
  vwu a1 a2 a0.2.2.1 (fun y33=>
   k (y33.1,y33.2))))
theorem wpc {a0:dTxn}{a1:(List vah)}{a2:ByteArray}(h0:a0.2.2.2.2.2.1.length<9223372036854775807){k:(ByteArray×Bool)→Option Res}:vq3 a0 a1 a2 k=wet a0 a1 a2 k:=by
 rw [wdh]
 simp only [v9p,wet,(whe h0),Sum.elim_inl,Sum.elim_inr]
def vj4 (u0:(List vaa))(u1:(List vaa))(u2:Bool):List vaa→Nat→(((Bool×Int)⊕Int)→Option Res)→Option Res
 |[],i,k=>
  k (.inr (i:Int))
 |y::l,i,k=>
  if 0≤(i:Int)∧(i:Int)<(u1.length:Int)then
   bif (!(Ty.eqB tWrite y (rd (Ty.zero tWrite) u1 (i:Int))))then
    k (.inl (false,(i:Int)))
   else
    vj4 u0 u1 u2 l (i+1) k
  else none
theorem wh7 {u0} {u1} {u2}(h0:u0.length<9223372036854775807){K:(q10T⊕q10T)→Option Res}:∀(l:List vaa) (i:Nat)  (n:Nat),u0.drop i=l→l.length<n→vak vly n (u0,u1,u2,(i:Int)) K=vj4 u0 u1 u2 l  i (Sum.elim (fun z=>K (.inl (u0,u1,z.1,z.2))) (fun z=>K (.inr (u0,u1,u2,z)))):=by
 intro l
 induction l with
 |nil=>
  intro i  n hd hn
  have hge:=vb9 hd
  cases n with
  |zero=>exact absurd hn (Nat.not_lt_zero _)
  |succ n=>simp only [vak,vly,vj4,hge,decide_false,cond_false,Sum.elim_inr,Sum.elim_inl]
 |cons y l ih=>
  intro i  n hd hn
  obtain⟨hlt,hz,hd2,hw,hnn⟩:=vbv hd h0
  have hy:=vbn hd
  cases n with
  |zero=>exact absurd hn (Nat.not_lt_zero _)
  |succ n=>
   have ih2:=ih (i+1)  n hd2 (Nat.lt_of_succ_lt_succ hn)
   simp only [vak,vly,vj4,hlt,hz,decide_true,cond_true,and_self,if_true,hy,hw,hnn,Sum.elim_inl,Sum.elim_inr,ih2]
theorem wkf {u0} {u1} {u2}(h0:u0.length<9223372036854775807){K:(q10T⊕q10T)→Option Res}  : vak vly Fuel (u0,u1,u2,(0:Int)) K=vj4 u0 u1 u2 u0  0 (Sum.elim (fun z=>K (.inl (u0,u1,z.1,z.2))) (fun z=>K (.inr (u0,u1,u2,z)))):=
 wh7 h0 u0 0  Fuel rfl (vbu h0)
def wdv (a0:(List vaa))(a1:(List vaa))(k:Bool→Option Res):Option Res:=
 bif ((a0.length:Int) != (a1.length:Int))then
  k false
 else
  vj4 a0 a1 false a0  0 (Sum.elim (fun z31=>
   k z31.1) (fun _=>
   k true))
theorem wsk {a0:(List vaa)}{a1:(List vaa)}(h0:a0.length<9223372036854775807){k:Bool→Option Res}:vsz a0 a1 k=wdv a0 a1 k:=by
 rw [wb0]
 simp only [v6p,wdv,(wkf h0),Sum.elim_inl,Sum.elim_inr]
def vkk (u0:Bool)(u2:Int)(u3:Int)(u4:Int)(u5:Int)(u6:(List vad))(u7:(List vaa))(u8:Bool)(u9:ByteArray)(u10:Int)(u11:Int)(u12:Int)(u13:Int)(u14:(List vad))(u15:(List vaa))(u16:Bool)(u17:ByteArray):List vad→Nat→(((Bool×Int)⊕Int)→Option Res)→Option Res
 |[],i,k=>
  k (.inr (i:Int))
 |y::l,i,k=>
  if 0≤(i:Int)∧(i:Int)<(u14.length:Int)then
   bif (!(Ty.eqB tRange y (rd (Ty.zero tRange) u14 (i:Int))))then
    k (.inl (false,(i:Int)))
   else
    vkk u0 u2 u3 u4 u5 u6 u7 u8 u9 u10 u11 u12 u13 u14 u15 u16 u17 l (i+1) k
  else none
theorem wjo {u0} {u2} {u3} {u4} {u5} {u6} {u7} {u8} {u9} {u10} {u11} {u12} {u13} {u14} {u15} {u16} {u17}(h0:u6.length<9223372036854775807){K:(q28T⊕q28T)→Option Res}:∀(l:List vad) (i:Nat)  (n:Nat),u6.drop i=l→l.length<n→vak vlh n (u0,(i:Int),u2,u3,u4,u5,u6,u7,u8,u9,u10,u11,u12,u13,u14,u15,u16,u17) K=vkk u0 u2 u3 u4 u5 u6 u7 u8 u9 u10 u11 u12 u13 u14 u15 u16 u17 l  i (Sum.elim (fun z=>K (.inl (z.1,z.2,u2,u3,u4,u5,u6,u7,u8,u9,u10,u11,u12,u13,u14,u15,u16,u17))) (fun z=>K (.inr (u0,z,u2,u3,u4,u5,u6,u7,u8,u9,u10,u11,u12,u13,u14,u15,u16,u17)))):=by
 intro l
 induction l with
 |nil=>
  intro i  n hd hn
  have hge:=vb9 hd
  cases n with
  |zero=>exact absurd hn (Nat.not_lt_zero _)
  |succ n=>simp only [vak,vlh,vkk,hge,decide_false,cond_false,Sum.elim_inr,Sum.elim_inl]
 |cons y l ih=>
  intro i  n hd hn
  obtain⟨hlt,hz,hd2,hw,hnn⟩:=vbv hd h0
  have hy:=vbn hd
  cases n with
  |zero=>exact absurd hn (Nat.not_lt_zero _)
  |succ n=>
   have ih2:=ih (i+1)  n hd2 (Nat.lt_of_succ_lt_succ hn)
   simp only [vak,vlh,vkk,hlt,hz,decide_true,cond_true,and_self,if_true,hy,hw,hnn,Sum.elim_inl,Sum.elim_inr,ih2]
theorem wh6 {u0} {u2} {u3} {u4} {u5} {u6} {u7} {u8} {u9} {u10} {u11} {u12} {u13} {u14} {u15} {u16} {u17}(h0:u6.length<9223372036854775807){K:(q28T⊕q28T)→Option Res}  : vak vlh Fuel (u0,(0:Int),u2,u3,u4,u5,u6,u7,u8,u9,u10,u11,u12,u13,u14,u15,u16,u17) K=vkk u0 u2 u3 u4 u5 u6 u7 u8 u9 u10 u11 u12 u13 u14 u15 u16 u17 u6  0 (Sum.elim (fun z=>K (.inl (z.1,z.2,u2,u3,u4,u5,u6,u7,u8,u9,u10,u11,u12,u13,u14,u15,u16,u17))) (fun z=>K (.inr (u0,z,u2,u3,u4,u5,u6,u7,u8,u9,u10,u11,u12,u13,u14,u15,u16,u17)))):=
 wjo h0 u6 0  Fuel rfl (vbu h0)
def vfd (u0:Bool)(u1:Int)(u2:Int)(u3:Int)(u4:Int)(u5:(List vad))(u6:(List vaa))(u7:Bool)(u8:ByteArray)(u9:Int)(u10:Int)(u11:Int)(u12:Int)(u13:(List vad))(u14:(List vaa))(u15:Bool)(u16:ByteArray)(k:Bool→Option Res):Option Res:=
  vkk u0 u1 u2 u3 u4 u5 u6 u7 u8 u9 u10 u11 u12 u13 u14 u15 u16 u5  0 (Sum.elim (fun z1=>
   k z1.1) (fun _=>
   k true))
theorem vuh {u0} {u1} {u2} {u3} {u4} {u5} {u6} {u7} {u8} {u9} {u10} {u11} {u12} {u13} {u14} {u15} {u16}(h0:u5.length<9223372036854775807){K:q23T→Option Res}:vdg (u0,u1,u2,u3,u4,u5,u6,u7,u8,u9,u10,u11,u12,u13,u14,u15,u16) K=vfd u0 u1 u2 u3 u4 u5 u6 u7 u8 u9 u10 u11 u12 u13 u14 u15 u16 (fun z=>K (z,u1,u2,u3,u4,u5,u6,u7,u8,u9,u10,u11,u12,u13,u14,u15,u16)):=by
 simp only [vdg,vfd,(wh6 h0),Sum.elim_inl,Sum.elim_inr]
def wff (a0:dTxn)(a1:dTxn)(k:Bool→Option Res):Option Res:=
 bif (a0.1 != a1.1)then
  k false
 else
  bif (a0.2.1 != a1.2.1)then
   k false
  else
   bif (a0.2.2.1 != a1.2.2.1)then
    k false
   else
    bif (a0.2.2.2.1 != a1.2.2.2.1)then
     k false
    else
     bif (!(a0.2.2.2.2.2.2.1==a1.2.2.2.2.2.2.1))then
      k false
     else
      bif (!(vav a0.2.2.2.2.2.2.2 a1.2.2.2.2.2.2.2))then
       k false
      else
       bif ((a0.2.2.2.2.1.length:Int) != (a1.2.2.2.2.1.length:Int))then
        k false
       else
        vsz a0.2.2.2.2.2.1 a1.2.2.2.2.2.1 (fun y31=>
         bif (!y31)then
          k false
         else
          vfd false a0.1 a0.2.1 a0.2.2.1 a0.2.2.2.1 a0.2.2.2.2.1 a0.2.2.2.2.2.1 a0.2.2.2.2.2.2.1 a0.2.2.2.2.2.2.2 a1.1 a1.2.1 a1.2.2.1 a1.2.2.2.1 a1.2.2.2.2.1 a1.2.2.2.2.2.1 a1.2.2.2.2.2.2.1 a1.2.2.2.2.2.2.2 (fun z32=>
           k z32))
theorem wq0 {a0:dTxn}{a1:dTxn}(h0:a0.2.2.2.2.1.length<9223372036854775807){k:Bool→Option Res}:vg6 a0 a1 k=wff a0 a1 k:=by
 rw [wgx]
 simp only [v89,wff,(vuh h0),Sum.elim_inl,Sum.elim_inr]
end
end Go.VE
