/- Loops told as recursions over what is left; written by gen.py. -/
import Derived.Test.YtcccpkohlkfhoaaStoreNewN
import Derived.Test.YtcccpkohlkfhoaaP1
namespace Go.VE
noncomputable section
set_option linter.unusedVariables false
set_option linter.unusedSimpArgs false
set_option maxRecDepth 100000
def vfs (u0:(List vaf))(u1:(List vaf))(u2:Bool):List vaf→Nat→(((Bool×Int)⊕Int)→Option Res)→Option Res
 |[],i,k=>
  k (.inr (i:Int))
 |y::l,i,k=>
  if 0≤(i:Int)∧(i:Int)<(u1.length:Int)then
   vm8 y (rd (Ty.zero tVersion) u1 (i:Int)) (fun y1=>
    bif (!y1)then
     k (.inl (false,(i:Int)))
    else
     vfs u0 u1 u2 l (i+1) k)
  else none
theorem v2e {u0} {u1} {u2}(h0:u0.length<9223372036854775807){K:(q8T⊕q8T)→Option Res}:∀(l:List vaf)(i:Nat)  (n:Nat),u0.drop i=l→l.length<n→vai vgd n (u0,u1,u2,(i:Int)) K=vfs u0 u1 u2 l  i (Sum.elim (fun z=>K (.inl (u0,u1,z.1,z.2))) (fun z=>K (.inr (u0,u1,u2,z)))):=by
 intro l
 induction l with
 |nil=>
  intro i  n hd hn
  have hge:=vdm hd
  cases n with
  |zero=>exact absurd hn (Nat.not_lt_zero _)
  |succ n=>simp only [vai,vgd,vfs,hge,decide_false,cond_false,Sum.elim_inr,Sum.elim_inl]
 |cons y l ih=>
  intro i  n hd hn
  obtain⟨hlt,hz,hd2,hw,hnn⟩:=vcf hd h0
  have hy:=vb5 hd
  cases n with
  |zero=>exact absurd hn (Nat.not_lt_zero _)
  |succ n=>
   have ih2:=ih (i+1)  n hd2 (Nat.lt_of_succ_lt_succ hn)
   simp only [vai,vgd,vfs,hlt,hz,decide_true,cond_true,and_self,if_true,hy,hw,hnn,Sum.elim_inl,Sum.elim_inr,ih2]
theorem v1y {u0} {u1} {u2}(h0:u0.length<9223372036854775807){K:(q8T⊕q8T)→Option Res}  : vai vgd Fuel (u0,u1,u2,(0:Int)) K=vfs u0 u1 u2 u0  0 (Sum.elim (fun z=>K (.inl (u0,u1,z.1,z.2))) (fun z=>K (.inr (u0,u1,u2,z)))):=
 v2e h0 u0 0  Fuel rfl (vcr h0)
def vxv (a0:(List vaf))(a1:(List vaf))(k:Bool→Option Res):Option Res:=
 bif ((a0.length:Int) != (a1.length:Int))then
  k false
 else
  vfs a0 a1 false a0  0 (Sum.elim (fun z9=>
   k z9.1) (fun _=>
   k true))
theorem v5j {a0:(List vaf)}{a1:(List vaf)}(h0:a0.length<9223372036854775807){k:Bool→Option Res}:vn3 a0 a1 k=vxv a0 a1 k:=by
 rw [vyz]
 simp only [vt2,vxv,(v1y h0),Sum.elim_inl,Sum.elim_inr]
def vfj (u0:(List vbx))(u1:(List vbx))(u2:Bool):List vbx→Nat→(((Bool×Int)⊕Int)→Option Res)→Option Res
 |[],i,k=>
  k (.inr (i:Int))
 |y::l,i,k=>
  if 0≤(i:Int)∧(i:Int)<(u1.length:Int)then
   vn8 y (rd (Ty.zero tRange) u1 (i:Int)) (fun y1=>
    bif (!y1)then
     k (.inl (false,(i:Int)))
    else
     vfj u0 u1 u2 l (i+1) k)
  else none
theorem v1h {u0} {u1} {u2}(h0:u0.length<9223372036854775807){K:(q4T⊕q4T)→Option Res}:∀(l:List vbx)(i:Nat)  (n:Nat),u0.drop i=l→l.length<n→vai vfy n (u0,u1,u2,(i:Int)) K=vfj u0 u1 u2 l  i (Sum.elim (fun z=>K (.inl (u0,u1,z.1,z.2))) (fun z=>K (.inr (u0,u1,u2,z)))):=by
 intro l
 induction l with
 |nil=>
  intro i  n hd hn
  have hge:=vdm hd
  cases n with
  |zero=>exact absurd hn (Nat.not_lt_zero _)
  |succ n=>simp only [vai,vfy,vfj,hge,decide_false,cond_false,Sum.elim_inr,Sum.elim_inl]
 |cons y l ih=>
  intro i  n hd hn
  obtain⟨hlt,hz,hd2,hw,hnn⟩:=vcf hd h0
  have hy:=vb5 hd
  cases n with
  |zero=>exact absurd hn (Nat.not_lt_zero _)
  |succ n=>
   have ih2:=ih (i+1)  n hd2 (Nat.lt_of_succ_lt_succ hn)
   simp only [vai,vfy,vfj,hlt,hz,decide_true,cond_true,and_self,if_true,hy,hw,hnn,Sum.elim_inl,Sum.elim_inr,ih2]
theorem v06 {u0} {u1} {u2}(h0:u0.length<9223372036854775807){K:(q4T⊕q4T)→Option Res}  : vai vfy Fuel (u0,u1,u2,(0:Int)) K=vfj u0 u1 u2 u0  0 (Sum.elim (fun z=>K (.inl (u0,u1,z.1,z.2))) (fun z=>K (.inr (u0,u1,u2,z)))):=
 v1h h0 u0 0  Fuel rfl (vcr h0)
def vzw (a0:(List vbx))(a1:(List vbx))(k:Bool→Option Res):Option Res:=
 bif ((a0.length:Int) != (a1.length:Int))then
  k false
 else
  vfj a0 a1 false a0  0 (Sum.elim (fun z9=>
   k z9.1) (fun _=>
   k true))
theorem v6t {a0:(List vbx)}{a1:(List vbx)}(h0:a0.length<9223372036854775807){k:Bool→Option Res}:vn5 a0 a1 k=vzw a0 a1 k:=by
 rw [vy8]
 simp only [vuz,vzw,(v06 h0),Sum.elim_inl,Sum.elim_inr]
def vfl (u0:(List vbw))(u1:(List vbw))(u2:Bool):List vbw→Nat→(((Bool×Int)⊕Int)→Option Res)→Option Res
 |[],i,k=>
  k (.inr (i:Int))
 |y::l,i,k=>
  if 0≤(i:Int)∧(i:Int)<(u1.length:Int)then
   vn6 y (rd (Ty.zero tWrite) u1 (i:Int)) (fun y1=>
    bif (!y1)then
     k (.inl (false,(i:Int)))
    else
     vfl u0 u1 u2 l (i+1) k)
  else none
theorem v09 {u0} {u1} {u2}(h0:u0.length<9223372036854775807){K:(q10T⊕q10T)→Option Res}:∀(l:List vbw)(i:Nat)  (n:Nat),u0.drop i=l→l.length<n→vai vfn n (u0,u1,u2,(i:Int)) K=vfl u0 u1 u2 l  i (Sum.elim (fun z=>K (.inl (u0,u1,z.1,z.2))) (fun z=>K (.inr (u0,u1,u2,z)))):=by
 intro l
 induction l with
 |nil=>
  intro i  n hd hn
  have hge:=vdm hd
  cases n with
  |zero=>exact absurd hn (Nat.not_lt_zero _)
  |succ n=>simp only [vai,vfn,vfl,hge,decide_false,cond_false,Sum.elim_inr,Sum.elim_inl]
 |cons y l ih=>
  intro i  n hd hn
  obtain⟨hlt,hz,hd2,hw,hnn⟩:=vcf hd h0
  have hy:=vb5 hd
  cases n with
  |zero=>exact absurd hn (Nat.not_lt_zero _)
  |succ n=>
   have ih2:=ih (i+1)  n hd2 (Nat.lt_of_succ_lt_succ hn)
   simp only [vai,vfn,vfl,hlt,hz,decide_true,cond_true,and_self,if_true,hy,hw,hnn,Sum.elim_inl,Sum.elim_inr,ih2]
theorem v0x {u0} {u1} {u2}(h0:u0.length<9223372036854775807){K:(q10T⊕q10T)→Option Res}  : vai vfn Fuel (u0,u1,u2,(0:Int)) K=vfl u0 u1 u2 u0  0 (Sum.elim (fun z=>K (.inl (u0,u1,z.1,z.2))) (fun z=>K (.inr (u0,u1,u2,z)))):=
 v09 h0 u0 0  Fuel rfl (vcr h0)
def vz8 (a0:(List vbw))(a1:(List vbw))(k:Bool→Option Res):Option Res:=
 bif ((a0.length:Int) != (a1.length:Int))then
  k false
 else
  vfl a0 a1 false a0  0 (Sum.elim (fun z9=>
   k z9.1) (fun _=>
   k true))
theorem v5t {a0:(List vbw)}{a1:(List vbw)}(h0:a0.length<9223372036854775807){k:Bool→Option Res}:vng a0 a1 k=vz8 a0 a1 k:=by
 rw [vyc]
 simp only [vva,vz8,(v0x h0),Sum.elim_inl,Sum.elim_inr]
def vfz (u0:(List dTxn))(u1:(List dTxn))(u2:Bool):List dTxn→Nat→(((Bool×Int)⊕Int)→Option Res)→Option Res
 |[],i,k=>
  k (.inr (i:Int))
 |y::l,i,k=>
  if 0≤(i:Int)∧(i:Int)<(u1.length:Int)then
   vll y (rd (Ty.zero tTxn) u1 (i:Int)) (fun y1=>
    bif (!y1)then
     k (.inl (false,(i:Int)))
    else
     vfz u0 u1 u2 l (i+1) k)
  else none
theorem v0s {u0} {u1} {u2}(h0:u0.length<9223372036854775807){K:(q6T⊕q6T)→Option Res}:∀(l:List dTxn)(i:Nat)  (n:Nat),u0.drop i=l→l.length<n→vai vfh n (u0,u1,u2,(i:Int)) K=vfz u0 u1 u2 l  i (Sum.elim (fun z=>K (.inl (u0,u1,z.1,z.2))) (fun z=>K (.inr (u0,u1,u2,z)))):=by
 intro l
 induction l with
 |nil=>
  intro i  n hd hn
  have hge:=vdm hd
  cases n with
  |zero=>exact absurd hn (Nat.not_lt_zero _)
  |succ n=>simp only [vai,vfh,vfz,hge,decide_false,cond_false,Sum.elim_inr,Sum.elim_inl]
 |cons y l ih=>
  intro i  n hd hn
  obtain⟨hlt,hz,hd2,hw,hnn⟩:=vcf hd h0
  have hy:=vb5 hd
  cases n with
  |zero=>exact absurd hn (Nat.not_lt_zero _)
  |succ n=>
   have ih2:=ih (i+1)  n hd2 (Nat.lt_of_succ_lt_succ hn)
   simp only [vai,vfh,vfz,hlt,hz,decide_true,cond_true,and_self,if_true,hy,hw,hnn,Sum.elim_inl,Sum.elim_inr,ih2]
theorem v15 {u0} {u1} {u2}(h0:u0.length<9223372036854775807){K:(q6T⊕q6T)→Option Res}  : vai vfh Fuel (u0,u1,u2,(0:Int)) K=vfz u0 u1 u2 u0  0 (Sum.elim (fun z=>K (.inl (u0,u1,z.1,z.2))) (fun z=>K (.inr (u0,u1,u2,z)))):=
 v0s h0 u0 0  Fuel rfl (vcr h0)
def vyb (a0:(List dTxn))(a1:(List dTxn))(k:Bool→Option Res):Option Res:=
 bif ((a0.length:Int) != (a1.length:Int))then
  k false
 else
  vfz a0 a1 false a0  0 (Sum.elim (fun z9=>
   k z9.1) (fun _=>
   k true))
theorem v6o {a0:(List dTxn)}{a1:(List dTxn)}(h0:a0.length<9223372036854775807){k:Bool→Option Res}:vja a0 a1 k=vyb a0 a1 k:=by
 rw [vz4]
 simp only [vuo,vyb,(v15 h0),Sum.elim_inl,Sum.elim_inr]
def vgf (u0:(List ByteArray))(u1:(List ByteArray))(u2:Bool):List ByteArray→Nat→(((Bool×Int)⊕Int)→Option Res)→Option Res
 |[],i,k=>
  k (.inr (i:Int))
 |y::l,i,k=>
  if 0≤(i:Int)∧(i:Int)<(u1.length:Int)then
   bif (!(vbm y (rd (Ty.zero .str) u1 (i:Int))))then
    k (.inl (false,(i:Int)))
   else
    vgf u0 u1 u2 l (i+1) k
  else none
theorem v2a {u0} {u1} {u2}(h0:u0.length<9223372036854775807){K:(q0T⊕q0T)→Option Res}:∀(l:List ByteArray)(i:Nat)  (n:Nat),u0.drop i=l→l.length<n→vai vfv n (u0,u1,u2,(i:Int)) K=vgf u0 u1 u2 l  i (Sum.elim (fun z=>K (.inl (u0,u1,z.1,z.2))) (fun z=>K (.inr (u0,u1,u2,z)))):=by
 intro l
 induction l with
 |nil=>
  intro i  n hd hn
  have hge:=vdm hd
  cases n with
  |zero=>exact absurd hn (Nat.not_lt_zero _)
  |succ n=>simp only [vai,vfv,vgf,hge,decide_false,cond_false,Sum.elim_inr,Sum.elim_inl]
 |cons y l ih=>
  intro i  n hd hn
  obtain⟨hlt,hz,hd2,hw,hnn⟩:=vcf hd h0
  have hy:=vb5 hd
  cases n with
  |zero=>exact absurd hn (Nat.not_lt_zero _)
  |succ n=>
   have ih2:=ih (i+1)  n hd2 (Nat.lt_of_succ_lt_succ hn)
   simp only [vai,vfv,vgf,hlt,hz,decide_true,cond_true,and_self,if_true,hy,hw,hnn,Sum.elim_inl,Sum.elim_inr,ih2]
theorem v1w {u0} {u1} {u2}(h0:u0.length<9223372036854775807){K:(q0T⊕q0T)→Option Res}  : vai vfv Fuel (u0,u1,u2,(0:Int)) K=vgf u0 u1 u2 u0  0 (Sum.elim (fun z=>K (.inl (u0,u1,z.1,z.2))) (fun z=>K (.inr (u0,u1,u2,z)))):=
 v2a h0 u0 0  Fuel rfl (vcr h0)
def vzs (a0:(List ByteArray))(a1:(List ByteArray))(k:Bool→Option Res):Option Res:=
 bif ((a0.length:Int) != (a1.length:Int))then
  k false
 else
  vgf a0 a1 false a0  0 (Sum.elim (fun z9=>
   k z9.1) (fun _=>
   k true))
theorem v58 {a0:(List ByteArray)}{a1:(List ByteArray)}(h0:a0.length<9223372036854775807){k:Bool→Option Res}:vni a0 a1 k=vzs a0 a1 k:=by
 rw [vze]
 simp only [vu0,vzs,(v1w h0),Sum.elim_inl,Sum.elim_inr]
def vi3 (u0:(List dPut))(u1:(List dPut))(u2:Bool):List dPut→Nat→(((Bool×Int)⊕Int)→Option Res)→Option Res
 |[],i,k=>
  k (.inr (i:Int))
 |y::l,i,k=>
  if 0≤(i:Int)∧(i:Int)<(u1.length:Int)then
   vr5 y (rd (Ty.zero tPut) u1 (i:Int)) (fun y1=>
    bif (!y1)then
     k (.inl (false,(i:Int)))
    else
     vi3 u0 u1 u2 l (i+1) k)
  else none
theorem v2c {u0} {u1} {u2}(h0:u0.length<9223372036854775807){K:(q2T⊕q2T)→Option Res}:∀(l:List dPut)(i:Nat)  (n:Nat),u0.drop i=l→l.length<n→vai vga n (u0,u1,u2,(i:Int)) K=vi3 u0 u1 u2 l  i (Sum.elim (fun z=>K (.inl (u0,u1,z.1,z.2))) (fun z=>K (.inr (u0,u1,u2,z)))):=by
 intro l
 induction l with
 |nil=>
  intro i  n hd hn
  have hge:=vdm hd
  cases n with
  |zero=>exact absurd hn (Nat.not_lt_zero _)
  |succ n=>simp only [vai,vga,vi3,hge,decide_false,cond_false,Sum.elim_inr,Sum.elim_inl]
 |cons y l ih=>
  intro i  n hd hn
  obtain⟨hlt,hz,hd2,hw,hnn⟩:=vcf hd h0
  have hy:=vb5 hd
  cases n with
  |zero=>exact absurd hn (Nat.not_lt_zero _)
  |succ n=>
   have ih2:=ih (i+1)  n hd2 (Nat.lt_of_succ_lt_succ hn)
   simp only [vai,vga,vi3,hlt,hz,decide_true,cond_true,and_self,if_true,hy,hw,hnn,Sum.elim_inl,Sum.elim_inr,ih2]
theorem v1n {u0} {u1} {u2}(h0:u0.length<9223372036854775807){K:(q2T⊕q2T)→Option Res}  : vai vga Fuel (u0,u1,u2,(0:Int)) K=vi3 u0 u1 u2 u0  0 (Sum.elim (fun z=>K (.inl (u0,u1,z.1,z.2))) (fun z=>K (.inr (u0,u1,u2,z)))):=
 v2c h0 u0 0  Fuel rfl (vcr h0)
def v2t (a0:(List dPut))(a1:(List dPut))(k:Bool→Option Res):Option Res:=
 bif ((a0.length:Int) != (a1.length:Int))then
  k false
 else
  vi3 a0 a1 false a0  0 (Sum.elim (fun z9=>
   k z9.1) (fun _=>
   k true))
theorem v6h {a0:(List dPut)}{a1:(List dPut)}(h0:a0.length<9223372036854775807){k:Bool→Option Res}:vmt a0 a1 k=v2t a0 a1 k:=by
 rw [vye]
 simp only [vvs,v2t,(v1n h0),Sum.elim_inl,Sum.elim_inr]
def vi0 (u0:(List vaf))(u2:Int):List vaf→Int→Nat→(((Int×Int×Int)⊕(Int×Int))→Option Res)→Option Res
 |[],s1,i,k=>
  k (.inr (s1,(i:Int)))
 |y::l,s1,i,k=>
  vbq s1 (fun y1=>
   bif (!(vbm (y.1) y1))then
    k (.inl (s1,(-1:Int),(i:Int)))
   else
    vbq (IntKind.wrap .i64 (s1+(1:Int))) (fun y2=>
     bif (!(vbm (y.2.1) y2))then
      k (.inl ((IntKind.wrap .i64 (s1+(1:Int))),(-1:Int),(i:Int)))
     else
      bif (!(y.2.2.1==(((IntKind.wrap .i64 ((IntKind.wrap .i64 (s1+(1:Int)))+(1:Int))).tmod (3:Int))==(0:Int))))then
       k (.inl ((IntKind.wrap .i64 ((IntKind.wrap .i64 (s1+(1:Int)))+(1:Int))),(-1:Int),(i:Int)))
      else
       bif (y.2.2.2 != (IntKind.wrap .i64 ((IntKind.wrap .i64 ((IntKind.wrap .i64 (s1+(1:Int)))+(1:Int)))+(1:Int))))then
        k (.inl ((IntKind.wrap .i64 ((IntKind.wrap .i64 ((IntKind.wrap .i64 (s1+(1:Int)))+(1:Int)))+(1:Int))),(-1:Int),(i:Int)))
       else
        vi0 u0 u2 l (IntKind.wrap .i64 ((IntKind.wrap .i64 ((IntKind.wrap .i64 ((IntKind.wrap .i64 (s1+(1:Int)))+(1:Int)))+(1:Int)))+(1:Int))) (i+1) k))
theorem v2i {u0} {u2}(h0:u0.length<9223372036854775807){K:(q9T⊕q9T)→Option Res}:∀(l:List vaf)(i:Nat)(s1:Int)(n:Nat),u0.drop i=l→l.length<n→vai vft n (u0,s1,u2,(i:Int)) K=vi0 u0 u2 l s1 i (Sum.elim (fun z=>K (.inl (u0,z.1,z.2.1,z.2.2))) (fun z=>K (.inr (u0,z.1,u2,z.2)))):=by
 intro l
 induction l with
 |nil=>
  intro i s1 n hd hn
  have hge:=vdm hd
  cases n with
  |zero=>exact absurd hn (Nat.not_lt_zero _)
  |succ n=>simp only [vai,vft,vi0,hge,decide_false,cond_false,Sum.elim_inr,Sum.elim_inl]
 |cons y l ih=>
  intro i s1 n hd hn
  obtain⟨hlt,hz,hd2,hw,hnn⟩:=vcf hd h0
  have hy:=vb5 hd
  cases n with
  |zero=>exact absurd hn (Nat.not_lt_zero _)
  |succ n=>
   have ih2:=fun(s1:Int)=>ih (i+1) s1 n hd2 (Nat.lt_of_succ_lt_succ hn)
   simp only [vai,vft,vi0,hlt,hz,decide_true,cond_true,and_self,if_true,hy,hw,hnn,Sum.elim_inl,Sum.elim_inr,ih2]
theorem v1t {u0} {u2}(h0:u0.length<9223372036854775807){K:(q9T⊕q9T)→Option Res}{s1:Int}:vai vft Fuel (u0,s1,u2,(0:Int)) K=vi0 u0 u2 u0 s1 0 (Sum.elim (fun z=>K (.inl (u0,z.1,z.2.1,z.2.2))) (fun z=>K (.inr (u0,z.1,u2,z.2)))):=
 v2i h0 u0 0 s1 Fuel rfl (vcr h0)
def v39 (a0:(List vaf))(a1:Int)(k:Int→Option Res):Option Res:=
 vi0 a0 (0:Int) a0 a1 0 (Sum.elim (fun z9=>
  k z9.2.1) (fun z10=>
  k z10.1))
theorem v5n {a0:(List vaf)}{a1:Int}(h0:a0.length<9223372036854775807){k:Int→Option Res}:vnq a0 a1 k=v39 a0 a1 k:=by
 rw [vx9]
 simp only [vvb,v39,(v1t h0),Sum.elim_inl,Sum.elim_inr]
def vi9 (u0:(List dTxn))(u2:Int):List dTxn→Int→Nat→(((Int×Int×Int)⊕(Int×Int))→Option Res)→Option Res
 |[],s1,i,k=>
  k (.inr (s1,(i:Int)))
 |y::l,s1,i,k=>
  bif (y.1 != s1)then
   k (.inl (s1,(-1:Int),(i:Int)))
  else
   bif (y.2.1 != (IntKind.wrap .i64 (s1+(1:Int))))then
    k (.inl ((IntKind.wrap .i64 (s1+(1:Int))),(-1:Int),(i:Int)))
   else
    bif (y.2.2.1 != (IntKind.wrap .i64 ((IntKind.wrap .i64 (s1+(1:Int)))+(1:Int))))then
     k (.inl ((IntKind.wrap .i64 ((IntKind.wrap .i64 (s1+(1:Int)))+(1:Int))),(-1:Int),(i:Int)))
    else
     bif (y.2.2.2.1 != (IntKind.wrap .i64 ((IntKind.wrap .i64 ((IntKind.wrap .i64 (s1+(1:Int)))+(1:Int)))+(1:Int))))then
      k (.inl ((IntKind.wrap .i64 ((IntKind.wrap .i64 ((IntKind.wrap .i64 (s1+(1:Int)))+(1:Int)))+(1:Int))),(-1:Int),(i:Int)))
     else
      vp4 y.2.2.2.2.1 (IntKind.wrap .i64 ((IntKind.wrap .i64 ((IntKind.wrap .i64 ((IntKind.wrap .i64 (s1+(1:Int)))+(1:Int)))+(1:Int)))+(1:Int))) (fun y1=>
       bif (decide (y1<(0:Int)))then
        k (.inl (y1,(-1:Int),(i:Int)))
       else
        vqp y.2.2.2.2.2.1 y1 (fun y2=>
         bif (decide (y2<(0:Int)))then
          k (.inl (y2,(-1:Int),(i:Int)))
         else
          bif (!(y.2.2.2.2.2.2.1==((y2.tmod (3:Int))==(0:Int))))then
           k (.inl (y2,(-1:Int),(i:Int)))
          else
           vbq (IntKind.wrap .i64 (y2+(1:Int))) (fun y3=>
            bif (!(vbm (y.2.2.2.2.2.2.2) y3))then
             k (.inl ((IntKind.wrap .i64 (y2+(1:Int))),(-1:Int),(i:Int)))
            else
             vi9 u0 u2 l (IntKind.wrap .i64 ((IntKind.wrap .i64 (y2+(1:Int)))+(1:Int))) (i+1) k)))
theorem v1l {u0} {u2}(h0:u0.length<9223372036854775807){K:(q7T⊕q7T)→Option Res}:∀(l:List dTxn)(i:Nat)(s1:Int)(n:Nat),u0.drop i=l→l.length<n→vai vf3 n (u0,s1,u2,(i:Int)) K=vi9 u0 u2 l s1 i (Sum.elim (fun z=>K (.inl (u0,z.1,z.2.1,z.2.2))) (fun z=>K (.inr (u0,z.1,u2,z.2)))):=by
 intro l
 induction l with
 |nil=>
  intro i s1 n hd hn
  have hge:=vdm hd
  cases n with
  |zero=>exact absurd hn (Nat.not_lt_zero _)
  |succ n=>simp only [vai,vf3,vi9,hge,decide_false,cond_false,Sum.elim_inr,Sum.elim_inl]
 |cons y l ih=>
  intro i s1 n hd hn
  obtain⟨hlt,hz,hd2,hw,hnn⟩:=vcf hd h0
  have hy:=vb5 hd
  cases n with
  |zero=>exact absurd hn (Nat.not_lt_zero _)
  |succ n=>
   have ih2:=fun(s1:Int)=>ih (i+1) s1 n hd2 (Nat.lt_of_succ_lt_succ hn)
   simp only [vai,vf3,vi9,hlt,hz,decide_true,cond_true,and_self,if_true,hy,hw,hnn,Sum.elim_inl,Sum.elim_inr,ih2]
theorem v1k {u0} {u2}(h0:u0.length<9223372036854775807){K:(q7T⊕q7T)→Option Res}{s1:Int}:vai vf3 Fuel (u0,s1,u2,(0:Int)) K=vi9 u0 u2 u0 s1 0 (Sum.elim (fun z=>K (.inl (u0,z.1,z.2.1,z.2.2))) (fun z=>K (.inr (u0,z.1,u2,z.2)))):=
 v1l h0 u0 0 s1 Fuel rfl (vcr h0)
def v38 (a0:(List dTxn))(a1:Int)(k:Int→Option Res):Option Res:=
 vi9 a0 (0:Int) a0 a1 0 (Sum.elim (fun z9=>
  k z9.2.1) (fun z10=>
  k z10.1))
theorem v68 {a0:(List dTxn)}{a1:Int}(h0:a0.length<9223372036854775807){k:Int→Option Res}:vje a0 a1 k=v38 a0 a1 k:=by
 rw [vym]
 simp only [vvy,v38,(v1k h0),Sum.elim_inl,Sum.elim_inr]
def veo (u0:(List ByteArray))(u2:Int):List ByteArray→Int→Nat→(((Int×Int×Int)⊕(Int×Int))→Option Res)→Option Res
 |[],s1,i,k=>
  k (.inr (s1,(i:Int)))
 |y::l,s1,i,k=>
  vbq s1 (fun y1=>
   bif (!(vbm y y1))then
    k (.inl (s1,(-1:Int),(i:Int)))
   else
    veo u0 u2 l (IntKind.wrap .i64 (s1+(1:Int))) (i+1) k)
theorem v0u {u0} {u2}(h0:u0.length<9223372036854775807){K:(q1T⊕q1T)→Option Res}:∀(l:List ByteArray)(i:Nat)(s1:Int)(n:Nat),u0.drop i=l→l.length<n→vai vf2 n (u0,s1,u2,(i:Int)) K=veo u0 u2 l s1 i (Sum.elim (fun z=>K (.inl (u0,z.1,z.2.1,z.2.2))) (fun z=>K (.inr (u0,z.1,u2,z.2)))):=by
 intro l
 induction l with
 |nil=>
  intro i s1 n hd hn
  have hge:=vdm hd
  cases n with
  |zero=>exact absurd hn (Nat.not_lt_zero _)
  |succ n=>simp only [vai,vf2,veo,hge,decide_false,cond_false,Sum.elim_inr,Sum.elim_inl]
 |cons y l ih=>
  intro i s1 n hd hn
  obtain⟨hlt,hz,hd2,hw,hnn⟩:=vcf hd h0
  have hy:=vb5 hd
  cases n with
  |zero=>exact absurd hn (Nat.not_lt_zero _)
  |succ n=>
   have ih2:=fun(s1:Int)=>ih (i+1) s1 n hd2 (Nat.lt_of_succ_lt_succ hn)
   simp only [vai,vf2,veo,hlt,hz,decide_true,cond_true,and_self,if_true,hy,hw,hnn,Sum.elim_inl,Sum.elim_inr,ih2]
theorem v1u {u0} {u2}(h0:u0.length<9223372036854775807){K:(q1T⊕q1T)→Option Res}{s1:Int}:vai vf2 Fuel (u0,s1,u2,(0:Int)) K=veo u0 u2 u0 s1 0 (Sum.elim (fun z=>K (.inl (u0,z.1,z.2.1,z.2.2))) (fun z=>K (.inr (u0,z.1,u2,z.2)))):=
 v0u h0 u0 0 s1 Fuel rfl (vcr h0)
def vy2 (a0:(List ByteArray))(a1:Int)(k:Int→Option Res):Option Res:=
 veo a0 (0:Int) a0 a1 0 (Sum.elim (fun z9=>
  k z9.2.1) (fun z10=>
  k z10.1))
theorem v5o {a0:(List ByteArray)}{a1:Int}(h0:a0.length<9223372036854775807){k:Int→Option Res}:vmq a0 a1 k=vy2 a0 a1 k:=by
 rw [vx0]
 simp only [vt7,vy2,(v1u h0),Sum.elim_inl,Sum.elim_inr]
def viz (u0:(List dPut))(u2:Int):List dPut→Int→Nat→(((Int×Int×Int)⊕(Int×Int))→Option Res)→Option Res
 |[],s1,i,k=>
  k (.inr (s1,(i:Int)))
 |y::l,s1,i,k=>
  bif (y.1 != s1)then
   k (.inl (s1,(-1:Int),(i:Int)))
  else
   vbq (IntKind.wrap .i64 (s1+(1:Int))) (fun y1=>
    bif (!(vbm (y.2) y1))then
     k (.inl ((IntKind.wrap .i64 (s1+(1:Int))),(-1:Int),(i:Int)))
    else
     viz u0 u2 l (IntKind.wrap .i64 ((IntKind.wrap .i64 (s1+(1:Int)))+(1:Int))) (i+1) k)
theorem v1r {u0} {u2}(h0:u0.length<9223372036854775807){K:(q3T⊕q3T)→Option Res}:∀(l:List dPut)(i:Nat)(s1:Int)(n:Nat),u0.drop i=l→l.length<n→vai vgl n (u0,s1,u2,(i:Int)) K=viz u0 u2 l s1 i (Sum.elim (fun z=>K (.inl (u0,z.1,z.2.1,z.2.2))) (fun z=>K (.inr (u0,z.1,u2,z.2)))):=by
 intro l
 induction l with
 |nil=>
  intro i s1 n hd hn
  have hge:=vdm hd
  cases n with
  |zero=>exact absurd hn (Nat.not_lt_zero _)
  |succ n=>simp only [vai,vgl,viz,hge,decide_false,cond_false,Sum.elim_inr,Sum.elim_inl]
 |cons y l ih=>
  intro i s1 n hd hn
  obtain⟨hlt,hz,hd2,hw,hnn⟩:=vcf hd h0
  have hy:=vb5 hd
  cases n with
  |zero=>exact absurd hn (Nat.not_lt_zero _)
  |succ n=>
   have ih2:=fun(s1:Int)=>ih (i+1) s1 n hd2 (Nat.lt_of_succ_lt_succ hn)
   simp only [vai,vgl,viz,hlt,hz,decide_true,cond_true,and_self,if_true,hy,hw,hnn,Sum.elim_inl,Sum.elim_inr,ih2]
theorem v08 {u0} {u2}(h0:u0.length<9223372036854775807){K:(q3T⊕q3T)→Option Res}{s1:Int}:vai vgl Fuel (u0,s1,u2,(0:Int)) K=viz u0 u2 u0 s1 0 (Sum.elim (fun z=>K (.inl (u0,z.1,z.2.1,z.2.2))) (fun z=>K (.inr (u0,z.1,u2,z.2)))):=
 v1r h0 u0 0 s1 Fuel rfl (vcr h0)
def v31 (a0:(List dPut))(a1:Int)(k:Int→Option Res):Option Res:=
 viz a0 (0:Int) a0 a1 0 (Sum.elim (fun z9=>
  k z9.2.1) (fun z10=>
  k z10.1))
theorem v7a {a0:(List dPut)}{a1:Int}(h0:a0.length<9223372036854775807){k:Int→Option Res}:vn9 a0 a1 k=v31 a0 a1 k:=by
 rw [vzj]
 simp only [vu3,v31,(v08 h0),Sum.elim_inl,Sum.elim_inr]
end
end Go.VE
