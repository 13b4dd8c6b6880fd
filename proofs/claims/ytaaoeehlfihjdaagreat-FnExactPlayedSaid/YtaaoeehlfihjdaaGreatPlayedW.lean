/- Loops told as recursions over what is left; written by gen.py. -/
import Derived.Test.YtaaoeehlfihjdaaGreatPlayedN
import Derived.Test.YtaaoeehlfihjdaaGreatP1
namespace Go.VE
noncomputable section
set_option linter.unusedVariables false
set_option linter.unusedSimpArgs false
set_option maxRecDepth 100000
def vr6 (u0:VL)(u2:Int):List vah→Int→Nat→(((Int×Int×Int)⊕(Int×Int))→OR)→OR
 |[],s1,i,k=>
  k (.inr (s1,(i:Int)))
 |y::l,s1,i,k=>
  v65 y s1 (fun y1=>
   bif (decide (y1<(0:Int)))then
    k (.inl (y1,(-1:Int),(i:Int)))
   else
    vr6 u0 u2 l y1 (i+1) k)
theorem w1s {u0 u2}(h0:u0.length<9223372036854775807){K:(q34T⊕q34T)→OR}:∀(l:List vah) (i n:Nat),u0.drop i=l→l.length<n→∀(s1:Int),vab vp2 n (u0,s1,u2,(i:Int)) K=vr6 u0 u2 l s1 i (Sum.elim (fun z=>K (.inl (u0,z.1,z.2.1,z.2.2))) (fun z=>K (.inr (u0,z.1,u2,z.2)))):=
 vao h0 (fun i n a=>by intros;simp only [vab,vp2,vr6,a,decide_false,cond_false,Sum.elim_inr,Sum.elim_inl])
  (fun y l i n a f=>by intros;simp only [vab,vp2,vr6,a,decide_true,cond_true,and_self,if_true,Sum.elim_inl,Sum.elim_inr,f])
theorem wze {u0 u2}(h0:u0.length<9223372036854775807){K:(q34T⊕q34T)→OR}{s1:Int}:vab vp2 Fuel (u0,s1,u2,(0:Int)) K=vr6 u0 u2 u0 s1 0 (Sum.elim (fun z=>K (.inl (u0,z.1,z.2.1,z.2.2))) (fun z=>K (.inr (u0,z.1,u2,z.2)))):=
 w1s h0 u0 0 Fuel rfl (vak h0) s1
def vs9 (u0:RL)(u2:Int):List vbz→Int→Nat→(((Int×Int×Int)⊕(Int×Int))→OR)→OR
 |[],s1,i,k=>
  k (.inr (s1,(i:Int)))
 |y::l,s1,i,k=>
  v55 y s1 (fun y1=>
   bif (decide (y1<(0:Int)))then
    k (.inl (y1,(-1:Int),(i:Int)))
   else
    vs9 u0 u2 l y1 (i+1) k)
theorem w3h {u0 u2}(h0:u0.length<9223372036854775807){K:(q6T⊕q6T)→OR}:∀(l:List vbz) (i n:Nat),u0.drop i=l→l.length<n→∀(s1:Int),vab vo6 n (u0,s1,u2,(i:Int)) K=vs9 u0 u2 l s1 i (Sum.elim (fun z=>K (.inl (u0,z.1,z.2.1,z.2.2))) (fun z=>K (.inr (u0,z.1,u2,z.2)))):=
 vao h0 (fun i n a=>by intros;simp only [vab,vo6,vs9,a,decide_false,cond_false,Sum.elim_inr,Sum.elim_inl])
  (fun y l i n a f=>by intros;simp only [vab,vo6,vs9,a,decide_true,cond_true,and_self,if_true,Sum.elim_inl,Sum.elim_inr,f])
theorem w19 {u0 u2}(h0:u0.length<9223372036854775807){K:(q6T⊕q6T)→OR}{s1:Int}:vab vo6 Fuel (u0,s1,u2,(0:Int)) K=vs9 u0 u2 u0 s1 0 (Sum.elim (fun z=>K (.inl (u0,z.1,z.2.1,z.2.2))) (fun z=>K (.inr (u0,z.1,u2,z.2)))):=
 w3h h0 u0 0 Fuel rfl (vak h0) s1
def vsl (u0:WL)(u2:Int):List vb9→Int→Nat→(((Int×Int×Int)⊕(Int×Int))→OR)→OR
 |[],s1,i,k=>
  k (.inr (s1,(i:Int)))
 |y::l,s1,i,k=>
  v69 y s1 (fun y1=>
   bif (decide (y1<(0:Int)))then
    k (.inl (y1,(-1:Int),(i:Int)))
   else
    vsl u0 u2 l y1 (i+1) k)
theorem w2h {u0 u2}(h0:u0.length<9223372036854775807){K:(q42T⊕q42T)→OR}:∀(l:List vb9) (i n:Nat),u0.drop i=l→l.length<n→∀(s1:Int),vab vpm n (u0,s1,u2,(i:Int)) K=vsl u0 u2 l s1 i (Sum.elim (fun z=>K (.inl (u0,z.1,z.2.1,z.2.2))) (fun z=>K (.inr (u0,z.1,u2,z.2)))):=
 vao h0 (fun i n a=>by intros;simp only [vab,vpm,vsl,a,decide_false,cond_false,Sum.elim_inr,Sum.elim_inl])
  (fun y l i n a f=>by intros;simp only [vab,vpm,vsl,a,decide_true,cond_true,and_self,if_true,Sum.elim_inl,Sum.elim_inr,f])
theorem w2m {u0 u2}(h0:u0.length<9223372036854775807){K:(q42T⊕q42T)→OR}{s1:Int}:vab vpm Fuel (u0,s1,u2,(0:Int)) K=vsl u0 u2 u0 s1 0 (Sum.elim (fun z=>K (.inl (u0,z.1,z.2.1,z.2.2))) (fun z=>K (.inr (u0,z.1,u2,z.2)))):=
 w2h h0 u0 0 Fuel rfl (vak h0) s1
def vr2 (u0:TL)(u2:Int):List dTxn→Int→Nat→(((Int×Int×Int)⊕(Int×Int))→OR)→OR
 |[],s1,i,k=>
  k (.inr (s1,(i:Int)))
 |y::l,s1,i,k=>
  vzp y s1 (fun y1=>
   bif (decide (y1<(0:Int)))then
    k (.inl (y1,(-1:Int),(i:Int)))
   else
    vr2 u0 u2 l y1 (i+1) k)
theorem wzm {u0 u2}(h0:u0.length<9223372036854775807){K:(q17T⊕q17T)→OR}:∀(l:List dTxn) (i n:Nat),u0.drop i=l→l.length<n→∀(s1:Int),vab voh n (u0,s1,u2,(i:Int)) K=vr2 u0 u2 l s1 i (Sum.elim (fun z=>K (.inl (u0,z.1,z.2.1,z.2.2))) (fun z=>K (.inr (u0,z.1,u2,z.2)))):=
 vao h0 (fun i n a=>by intros;simp only [vab,voh,vr2,a,decide_false,cond_false,Sum.elim_inr,Sum.elim_inl])
  (fun y l i n a f=>by intros;simp only [vab,voh,vr2,a,decide_true,cond_true,and_self,if_true,Sum.elim_inl,Sum.elim_inr,f])
theorem wzv {u0 u2}(h0:u0.length<9223372036854775807){K:(q17T⊕q17T)→OR}{s1:Int}:vab voh Fuel (u0,s1,u2,(0:Int)) K=vr2 u0 u2 u0 s1 0 (Sum.elim (fun z=>K (.inl (u0,z.1,z.2.1,z.2.2))) (fun z=>K (.inr (u0,z.1,u2,z.2)))):=
 wzm h0 u0 0 Fuel rfl (vak h0) s1
def vlb (u0:VL):List vah→VL→Nat→((Int×VL)→OR)→OR
 |[],s2,i,k=>
  k ((i:Int),s2)
 |y::l,s2,i,k=>
  v8d y (fun y1=>
   if 0≤(i:Int)∧(i:Int)<(s2.length:Int)then
    vlb u0 l (s2.set (i:Int).toNat y1) (i+1) k
   else none)
theorem w1x {u0}(h0:u0.length<9223372036854775807){K:q30T→OR}:∀(l:List vah) (i n:Nat),u0.drop i=l→l.length<n→∀(s2:VL),vab vp4 n (u0,(i:Int),s2) K=vlb u0 l s2 i (fun z=>K (u0,z.1,z.2)):=
 vao h0 (fun i n a=>by intros;simp only [vab,vp4,vlb,a,decide_false,cond_false,Sum.elim_inr,Sum.elim_inl])
  (fun y l i n a f=>by intros;simp only [vab,vp4,vlb,a,decide_true,cond_true,and_self,if_true,Sum.elim_inl,Sum.elim_inr,f])
theorem w2q {u0}(h0:u0.length<9223372036854775807){K:q30T→OR}{s2:VL}:vab vp4 Fuel (u0,(0:Int),s2) K=vlb u0 u0 s2 0 (fun z=>K (u0,z.1,z.2)):=
 w1x h0 u0 0 Fuel rfl (vak h0) s2
def wp7 (a0:VL)(k:VL→OR):OR:=
 if 0≤(a0.length:Int)∧(a0.length:Int)≤(a0.length:Int)∧(a0.length:Int)≤(VE.maxLen:Int)then
  vlb a0 a0 (List.replicate (a0.length:Int).toNat (Ty.zero tVersion)) 0 (fun z30=>
   k z30.2)
 else none
theorem xah {a0:VL}(h0:a0.length<9223372036854775807){k:VL→OR}:v5w a0 k=wp7 a0 k:=by
 rw [wrw]
 simp only [wmg,wp7,(w2q h0),Sum.elim_inl,Sum.elim_inr]
def vkv (u0:RL):List vbz→RL→Nat→((Int×RL)→OR)→OR
 |[],s2,i,k=>
  k ((i:Int),s2)
 |y::l,s2,i,k=>
  v7a y (fun y1=>
   if 0≤(i:Int)∧(i:Int)<(s2.length:Int)then
    vkv u0 l (s2.set (i:Int).toNat y1) (i+1) k
   else none)
theorem w11 {u0}(h0:u0.length<9223372036854775807){K:q5T→OR}:∀(l:List vbz) (i n:Nat),u0.drop i=l→l.length<n→∀(s2:RL),vab vod n (u0,(i:Int),s2) K=vkv u0 l s2 i (fun z=>K (u0,z.1,z.2)):=
 vao h0 (fun i n a=>by intros;simp only [vab,vod,vkv,a,decide_false,cond_false,Sum.elim_inr,Sum.elim_inl])
  (fun y l i n a f=>by intros;simp only [vab,vod,vkv,a,decide_true,cond_true,and_self,if_true,Sum.elim_inl,Sum.elim_inr,f])
theorem wy4 {u0}(h0:u0.length<9223372036854775807){K:q5T→OR}{s2:RL}:vab vod Fuel (u0,(0:Int),s2) K=vkv u0 u0 s2 0 (fun z=>K (u0,z.1,z.2)):=
 w11 h0 u0 0 Fuel rfl (vak h0) s2
def wxl (a0:RL)(k:RL→OR):OR:=
 if 0≤(a0.length:Int)∧(a0.length:Int)≤(a0.length:Int)∧(a0.length:Int)≤(VE.maxLen:Int)then
  vkv a0 a0 (List.replicate (a0.length:Int).toNat (Ty.zero tRange)) 0 (fun z30=>
   k z30.2)
 else none
theorem xcg {a0:RL}(h0:a0.length<9223372036854775807){k:RL→OR}:v6f a0 k=wxl a0 k:=by
 rw [wxr]
 simp only [wne,wxl,(wy4 h0),Sum.elim_inl,Sum.elim_inr]
def vlg (u0:WL):List vb9→WL→Nat→((Int×WL)→OR)→OR
 |[],s2,i,k=>
  k ((i:Int),s2)
 |y::l,s2,i,k=>
  v7m y (fun y1=>
   if 0≤(i:Int)∧(i:Int)<(s2.length:Int)then
    vlg u0 l (s2.set (i:Int).toNat y1) (i+1) k
   else none)
theorem w2s {u0}(h0:u0.length<9223372036854775807){K:q39T→OR}:∀(l:List vb9) (i n:Nat),u0.drop i=l→l.length<n→∀(s2:WL),vab vpa n (u0,(i:Int),s2) K=vlg u0 l s2 i (fun z=>K (u0,z.1,z.2)):=
 vao h0 (fun i n a=>by intros;simp only [vab,vpa,vlg,a,decide_false,cond_false,Sum.elim_inr,Sum.elim_inl])
  (fun y l i n a f=>by intros;simp only [vab,vpa,vlg,a,decide_true,cond_true,and_self,if_true,Sum.elim_inl,Sum.elim_inr,f])
theorem wy8 {u0}(h0:u0.length<9223372036854775807){K:q39T→OR}{s2:WL}:vab vpa Fuel (u0,(0:Int),s2) K=vlg u0 u0 s2 0 (fun z=>K (u0,z.1,z.2)):=
 w2s h0 u0 0 Fuel rfl (vak h0) s2
def wqy (a0:WL)(k:WL→OR):OR:=
 if 0≤(a0.length:Int)∧(a0.length:Int)≤(a0.length:Int)∧(a0.length:Int)≤(VE.maxLen:Int)then
  vlg a0 a0 (List.replicate (a0.length:Int).toNat (Ty.zero tWrite)) 0 (fun z30=>
   k z30.2)
 else none
theorem xcs {a0:WL}(h0:a0.length<9223372036854775807){k:WL→OR}:v6p a0 k=wqy a0 k:=by
 rw [wx6]
 simp only [wk6,wqy,(wy8 h0),Sum.elim_inl,Sum.elim_inr]
def vlc (u0:TL):List dTxn→TL→Nat→((Int×TL)→OR)→OR
 |[],s2,i,k=>
  k ((i:Int),s2)
 |y::l,s2,i,k=>
  vxa y (fun y1=>
   if 0≤(i:Int)∧(i:Int)<(s2.length:Int)then
    vlc u0 l (s2.set (i:Int).toNat (y1.1,(y1.2.1,(y1.2.2.1,(y1.2.2.2.1,(y1.2.2.2.2.2.2.1,(y1.2.2.2.2.2.2.2,(y1.2.2.2.2.1,y1.2.2.2.2.2.1)))))))) (i+1) k
   else none)
theorem w1a {u0}(h0:u0.length<9223372036854775807){K:q9T→OR}:∀(l:List dTxn) (i n:Nat),u0.drop i=l→l.length<n→∀(s2:TL),vab vpd n (u0,(i:Int),s2) K=vlc u0 l s2 i (fun z=>K (u0,z.1,z.2)):=
 vao h0 (fun i n a=>by intros;simp only [vab,vpd,vlc,a,decide_false,cond_false,Sum.elim_inr,Sum.elim_inl])
  (fun y l i n a f=>by intros;simp only [vab,vpd,vlc,a,decide_true,cond_true,and_self,if_true,Sum.elim_inl,Sum.elim_inr,f])
theorem wzr {u0}(h0:u0.length<9223372036854775807){K:q9T→OR}{s2:TL}:vab vpd Fuel (u0,(0:Int),s2) K=vlc u0 u0 s2 0 (fun z=>K (u0,z.1,z.2)):=
 w1a h0 u0 0 Fuel rfl (vak h0) s2
def wq9 (a0:TL)(k:TL→OR):OR:=
 if 0≤(a0.length:Int)∧(a0.length:Int)≤(a0.length:Int)∧(a0.length:Int)≤(VE.maxLen:Int)then
  vlc a0 a0 (List.replicate (a0.length:Int).toNat (Ty.zero tTxn)) 0 (fun z30=>
   k z30.2)
 else none
theorem xaq {a0:TL}(h0:a0.length<9223372036854775807){k:TL→OR}:v0f a0 k=wq9 a0 k:=by
 rw [wrk]
 simp only [wmd,wq9,(wzr h0),Sum.elim_inl,Sum.elim_inr]
def vjf (u0:ByteArray)(u1:Bool):List Int→Nat→(((Bool×Int)⊕Int)→OR)→OR
 |[],i,k=>
  k (.inr (i:Int))
 |y::l,i,k=>
  bif (decide (y<(97:Int)))then
   k (.inl (false,(i:Int)))
  else
   bif (decide (y>(122:Int)))then
    k (.inl (false,(i:Int)))
   else
    vjf u0 u1 l (i+1) k
theorem wwr {u0 u1}(h0:u0.size<9223372036854775807){K:((ByteArray×Bool×Int)⊕(ByteArray×Bool×Int))→OR}:∀(l:List Int) (i n:Nat),(vck u0).drop i=l→l.length<n→vab vjw n (u0,u1,(i:Int)) K=vjf u0 u1 l  i (Sum.elim (fun z=>K (.inl (u0,z.1,z.2))) (fun z=>K (.inr (u0,u1,z)))):=
 wg6 h0 (fun i n a=>by intros;simp only [vab,vjw,vjf,a,decide_false,cond_false,Sum.elim_inr,Sum.elim_inl])
  (fun y l i n a f=>by intros;simp only [vab,vjw,vjf,a,decide_true,cond_true,and_self,if_true,Sum.elim_inl,Sum.elim_inr,f])
theorem wrv {u0 u1}(h0:u0.size<9223372036854775807){K:((ByteArray×Bool×Int)⊕(ByteArray×Bool×Int))→OR}  : vab vjw Fuel (u0,u1,(0:Int)) K=vjf u0 u1 (vck u0)  0 (Sum.elim (fun z=>K (.inl (u0,z.1,z.2))) (fun z=>K (.inr (u0,u1,z)))):=
 wwr h0 (vck u0) 0 Fuel rfl (wkv h0)
def wik (a0:ByteArray)(k:Bool→OR):OR:=
 vjf a0 false (vck a0)  0 (Sum.elim (fun z30=>
  k z30.1) (fun _=>
  vch (a0.size:Int) (1:Int) (3:Int) (fun y32=>
   k y32)))
theorem w89 {a0:ByteArray}(h0:a0.size<9223372036854775807){k:Bool→OR}:vfk a0 k=wik a0 k:=by
 rw [we1]
 simp only [wa2,wik,(wrv h0),Sum.elim_inl,Sum.elim_inr]
def vd1 (u0:VL)(u1:Bool)(u2:Int)(u3 u4:ByteArray)(u5:Bool)(u6:Int)(k:(Bool⊕Unit)→OR):OR:=
  bif (decide (u2>(0:Int)))then
   if 0≤(IntKind.wrap .i64 (u2-(1:Int)))∧(IntKind.wrap .i64 (u2-(1:Int)))<(u0.length:Int)then
    bif (!((vai ((rd (Ty.zero tVersion) u0 (IntKind.wrap .i64 (u2-(1:Int)))).1) u3)||(vaj ((rd (Ty.zero tVersion) u0 (IntKind.wrap .i64 (u2-(1:Int)))).1) u3)))then
     k (.inl false)
    else
     if 0≤(IntKind.wrap .i64 (u2-(1:Int)))∧(IntKind.wrap .i64 (u2-(1:Int)))<(u0.length:Int)then
      bif (vaj ((rd (Ty.zero tVersion) u0 (IntKind.wrap .i64 (u2-(1:Int)))).1) u3)then
       if 0≤(IntKind.wrap .i64 (u2-(1:Int)))∧(IntKind.wrap .i64 (u2-(1:Int)))<(u0.length:Int)then
        bif (decide ((rd (Ty.zero tVersion) u0 (IntKind.wrap .i64 (u2-(1:Int)))).2.2.2≥u6))then
         k (.inl false)
        else
         k (.inr ())
       else none
      else
       k (.inr ())
     else none
   else none
  else
   k (.inr ())
theorem vn1 {u0 u1} {u2 u3} {u4 u5 u6}  {K:(q25T⊕q25T)→OR}:vc2 (u0,u1,u2,u3,u4,u5,u6) K=vd1 u0 u1 u2 u3 u4 u5 u6 (Sum.elim (fun z=>K (.inl (u0,z,u2,u3,u4,u5,u6))) (fun _=>K (.inr (u0,u1,u2,u3,u4,u5,u6)))):=by
 simp only [vc2,vd1,Sum.elim_inl,Sum.elim_inr]
def vhi (u0:VL)(u1:Bool):List vah→Nat→(((Bool×Int)⊕Int)→OR)→OR
 |[],i,k=>
  k (.inr (i:Int))
 |y::l,i,k=>
  vfk y.1 (fun y1=>
   bif (!y1)then
    k (.inl (false,(i:Int)))
   else
    bif (decide ((y.2.1.size:Int)>(12:Int)))then
     k (.inl (false,(i:Int)))
    else
     bif y.2.2.1 then
      bif (!(vaj (y.2.1) (⟨#[]⟩:ByteArray)))then
       k (.inl (false,(i:Int)))
      else
       vch y.2.2.2 (1:Int) (9999:Int) (fun y2=>
        bif (!y2)then
         k (.inl (false,(i:Int)))
        else
         vd1 u0 u1 (i:Int) y.1 y.2.1 y.2.2.1 y.2.2.2 (Sum.elim (fun z3=>
          k (.inl (z3,(i:Int)))) (fun _=>
          vhi u0 u1 l (i+1) k)))
     else
      vch y.2.2.2 (1:Int) (9999:Int) (fun y5=>
       bif (!y5)then
        k (.inl (false,(i:Int)))
       else
        vd1 u0 u1 (i:Int) y.1 y.2.1 y.2.2.1 y.2.2.2 (Sum.elim (fun z6=>
         k (.inl (z6,(i:Int)))) (fun _=>
         vhi u0 u1 l (i+1) k))))
theorem wsc {u0 u1}(h0:u0.length<9223372036854775807){K:((VL×Bool×Int)⊕(VL×Bool×Int))→OR}:∀(l:List vah) (i n:Nat),u0.drop i=l→l.length<n→vab vjy n (u0,u1,(i:Int)) K=vhi u0 u1 l  i (Sum.elim (fun z=>K (.inl (u0,z.1,z.2))) (fun z=>K (.inr (u0,u1,z)))):=
 vao h0 (fun i n a=>by intros;simp only [vab,vjy,vhi,a,decide_false,cond_false,Sum.elim_inr,Sum.elim_inl,vn1])
  (fun y l i n a f=>by intros;simp only [vab,vjy,vhi,a,decide_true,cond_true,and_self,if_true,Sum.elim_inl,Sum.elim_inr,f,vn1])
theorem wyv {u0 u1}(h0:u0.length<9223372036854775807){K:((VL×Bool×Int)⊕(VL×Bool×Int))→OR}  : vab vjy Fuel (u0,u1,(0:Int)) K=vhi u0 u1 u0  0 (Sum.elim (fun z=>K (.inl (u0,z.1,z.2))) (fun z=>K (.inr (u0,u1,z)))):=
 wsc h0 u0 0 Fuel rfl (vak h0)
def wh1 (a0:VL)(k:Bool→OR):OR:=
 vhi a0 false a0  0 (Sum.elim (fun z30=>
  k z30.1) (fun _=>
  k (decide ((a0.length:Int)≤(120:Int)))))
theorem w73 {a0:VL}(h0:a0.length<9223372036854775807){k:Bool→OR}:vsd a0 k=wh1 a0 k:=by
 rw [wit]
 simp only [wcl,wh1,(wyv h0),Sum.elim_inl,Sum.elim_inr]
def vhd (u0:WL)(u1:Bool):List vb9→Nat→(((Bool×Int)⊕Int)→OR)→OR
 |[],i,k=>
  k (.inr (i:Int))
 |y::l,i,k=>
  vv9 y (fun y1=>
   bif (!y1)then
    k (.inl (false,(i:Int)))
   else
    bif (decide ((i:Int)>(0:Int)))then
     if 0≤(IntKind.wrap .i64 ((i:Int)-(1:Int)))∧(IntKind.wrap .i64 ((i:Int)-(1:Int)))<(u0.length:Int)then
      bif (!(vai ((rd (Ty.zero tWrite) u0 (IntKind.wrap .i64 ((i:Int)-(1:Int)))).1) (y.1)))then
       k (.inl (false,(i:Int)))
      else
       vhd u0 u1 l (i+1) k
     else none
    else
     vhd u0 u1 l (i+1) k)
theorem wwc {u0 u1}(h0:u0.length<9223372036854775807){K:((WL×Bool×Int)⊕(WL×Bool×Int))→OR}:∀(l:List vb9) (i n:Nat),u0.drop i=l→l.length<n→vab vjs n (u0,u1,(i:Int)) K=vhd u0 u1 l  i (Sum.elim (fun z=>K (.inl (u0,z.1,z.2))) (fun z=>K (.inr (u0,u1,z)))):=
 vao h0 (fun i n a=>by intros;simp only [vab,vjs,vhd,a,decide_false,cond_false,Sum.elim_inr,Sum.elim_inl])
  (fun y l i n a f=>by intros;simp only [vab,vjs,vhd,a,decide_true,cond_true,and_self,if_true,Sum.elim_inl,Sum.elim_inr,f])
theorem wtg {u0 u1}(h0:u0.length<9223372036854775807){K:((WL×Bool×Int)⊕(WL×Bool×Int))→OR}  : vab vjs Fuel (u0,u1,(0:Int)) K=vhd u0 u1 u0  0 (Sum.elim (fun z=>K (.inl (u0,z.1,z.2))) (fun z=>K (.inr (u0,u1,z)))):=
 wwc h0 u0 0 Fuel rfl (vak h0)
def wic (a0:WL)(k:Bool→OR):OR:=
 vhd a0 false a0  0 (Sum.elim (fun z30=>
  k z30.1) (fun _=>
  k (decide ((a0.length:Int)≤(8:Int)))))
theorem w9b {a0:WL}(h0:a0.length<9223372036854775807){k:Bool→OR}:vr8 a0 k=wic a0 k:=by
 rw [wfn]
 simp only [wak,wic,(wtg h0),Sum.elim_inl,Sum.elim_inr]
def vcn (u0:Bool)(u1 u2:Int)(u3 u4:Int)(u5:RL)(u6:WL)(u7:Bool)(u8:ByteArray)(k:Bool→OR):OR:=
  bif (u2 != (1:Int))then
   k true
  else
   k (!u7)
theorem vyw {u0 u1} {u2 u3} {u4 u5} {u6 u7 u8}  {K:q62T→OR}:vb3 (u0,u1,u2,u3,u4,u5,u6,u7,u8) K=vcn u0 u1 u2 u3 u4 u5 u6 u7 u8 (fun z=>K (z,u1,u2,u3,u4,u5,u6,u7,u8)):=by
 simp only [vb3,vcn,Sum.elim_inl,Sum.elim_inr]
def vcp (u0:Bool)(u1 u2:Int)(u3 u4:Int)(u5:RL)(u6:WL)(u7:Bool)(u8:ByteArray)(k:Bool→OR):OR:=
  bif (u2==(2:Int))then
   vfk u8 (fun y1=>
    bif (!y1)then
     k false
    else
     bif (u2 != (2:Int))then
      bif (!(vaj u8 (⟨#[]⟩:ByteArray)))then
       k false
      else
       vcn u0 u1 u2 u3 u4 u5 u6 u7 u8 (fun z2=>
        k z2)
     else
      vcn u0 u1 u2 u3 u4 u5 u6 u7 u8 (fun z3=>
       k z3))
  else
   bif (u2 != (2:Int))then
    bif (!(vaj u8 (⟨#[]⟩:ByteArray)))then
     k false
    else
     vcn u0 u1 u2 u3 u4 u5 u6 u7 u8 (fun z4=>
      k z4)
   else
    vcn u0 u1 u2 u3 u4 u5 u6 u7 u8 (fun z5=>
     k z5)
theorem vzu {u0 u1} {u2 u3} {u4 u5} {u6 u7 u8}  {K:q62T→OR}:vb6 (u0,u1,u2,u3,u4,u5,u6,u7,u8) K=vcp u0 u1 u2 u3 u4 u5 u6 u7 u8 (fun z=>K (z,u1,u2,u3,u4,u5,u6,u7,u8)):=by
 simp only [vb6,vcp,vyw,Sum.elim_inl,Sum.elim_inr]
def vjv (u0:Bool)(u2 u3:Int)(u4 u5:Int)(u6:RL)(u7:WL)(u8:Bool)(u9:ByteArray):List vbz→Nat→(((Bool×Int)⊕Int)→OR)→OR
 |[],i,k=>
  k (.inr (i:Int))
 |y::l,i,k=>
  vwd y (fun y1=>
   bif (!y1)then
    k (.inl (false,(i:Int)))
   else
    vjv u0 u2 u3 u4 u5 u6 u7 u8 u9 l (i+1) k)
theorem wsm {u0 u2} {u3 u4} {u5 u6} {u7 u8 u9}(h0:u6.length<9223372036854775807){K:(q65T⊕q65T)→OR}:∀(l:List vbz) (i n:Nat),u6.drop i=l→l.length<n→vab vj7 n (u0,(i:Int),u2,u3,u4,u5,u6,u7,u8,u9) K=vjv u0 u2 u3 u4 u5 u6 u7 u8 u9 l  i (Sum.elim (fun z=>K (.inl (z.1,z.2,u2,u3,u4,u5,u6,u7,u8,u9))) (fun z=>K (.inr (u0,z,u2,u3,u4,u5,u6,u7,u8,u9)))):=
 vao h0 (fun i n a=>by intros;simp only [vab,vj7,vjv,a,decide_false,cond_false,Sum.elim_inr,Sum.elim_inl])
  (fun y l i n a f=>by intros;simp only [vab,vj7,vjv,a,decide_true,cond_true,and_self,if_true,Sum.elim_inl,Sum.elim_inr,f])
theorem wxu {u0 u2} {u3 u4} {u5 u6} {u7 u8 u9}(h0:u6.length<9223372036854775807){K:(q65T⊕q65T)→OR}  : vab vj7 Fuel (u0,(0:Int),u2,u3,u4,u5,u6,u7,u8,u9) K=vjv u0 u2 u3 u4 u5 u6 u7 u8 u9 u6  0 (Sum.elim (fun z=>K (.inl (z.1,z.2,u2,u3,u4,u5,u6,u7,u8,u9))) (fun z=>K (.inr (u0,z,u2,u3,u4,u5,u6,u7,u8,u9)))):=
 wsm h0 u6 0 Fuel rfl (vak h0)
def vfn (u0:Bool)(u1 u2:Int)(u3 u4:Int)(u5:RL)(u6:WL)(u7:Bool)(u8:ByteArray)(k:Bool→OR):OR:=
  vjv u0 u1 u2 u3 u4 u5 u6 u7 u8 u5  0 (Sum.elim (fun z1=>
   k z1.1) (fun _=>
   bif (u2==(3:Int))then
    vch u4 (IntKind.wrap .i64 (u3+(1:Int))) (9999:Int) (fun y3=>
     bif (!y3)then
      k false
     else
      bif (u2 != (3:Int))then
       bif (u4 != (0:Int))then
        k false
       else
        vcp u0 u1 u2 u3 u4 u5 u6 u7 u8 (fun z4=>
         k z4)
      else
       vcp u0 u1 u2 u3 u4 u5 u6 u7 u8 (fun z5=>
        k z5))
   else
    bif (u2 != (3:Int))then
     bif (u4 != (0:Int))then
      k false
     else
      vcp u0 u1 u2 u3 u4 u5 u6 u7 u8 (fun z6=>
       k z6)
    else
     vcp u0 u1 u2 u3 u4 u5 u6 u7 u8 (fun z7=>
      k z7)))
theorem v00 {u0 u1} {u2 u3} {u4 u5} {u6 u7 u8}(h0:u5.length<9223372036854775807){K:q62T→OR}:vdv (u0,u1,u2,u3,u4,u5,u6,u7,u8) K=vfn u0 u1 u2 u3 u4 u5 u6 u7 u8 (fun z=>K (z,u1,u2,u3,u4,u5,u6,u7,u8)):=by
 simp only [vdv,vfn,vzu,(wxu h0),Sum.elim_inl,Sum.elim_inr]
def wid (a0:dTxn)(k:Bool→OR):OR:=
 vch a0.1 (1:Int) (9999:Int) (fun y30=>
  bif (!y30)then
   k false
  else
   vch a0.2.1 (1:Int) (3:Int) (fun y31=>
    bif (!y31)then
     k false
    else
     vch a0.2.2.1 (0:Int) (9999:Int) (fun y32=>
      bif (!y32)then
       k false
      else
       bif (decide ((a0.2.2.2.2.1.length:Int)>(8:Int)))then
        k false
       else
        vr8 a0.2.2.2.2.2.1 (fun y33=>
         bif (!y33)then
          k false
         else
          vfn false a0.1 a0.2.1 a0.2.2.1 a0.2.2.2.1 a0.2.2.2.2.1 a0.2.2.2.2.2.1 a0.2.2.2.2.2.2.1 a0.2.2.2.2.2.2.2 (fun z34=>
           k z34)))))
theorem w8n {a0:dTxn}(h0:a0.2.2.2.2.1.length<9223372036854775807){k:Bool→OR}:vh5 a0 k=wid a0 k:=by
 rw [wg5]
 simp only [wch,wid,(v00 h0),Sum.elim_inl,Sum.elim_inr]
def vjl (u0:Bool)(u2:VL)(u3 u4:TL)(u5 u6:Int):List vah→Nat→(((Bool×Int)⊕Int)→OR)→OR
 |[],i,k=>
  k (.inr (i:Int))
 |y::l,i,k=>
  bif (decide (y.2.2.2>u5))then
   k (.inl (false,(i:Int)))
  else
   vjl u0 u2 u3 u4 u5 u6 l (i+1) k
theorem ws0 {u0 u2} {u3 u4} {u5 u6}(h0:u2.length<9223372036854775807){K:(q58T⊕q58T)→OR}:∀(l:List vah) (i n:Nat),u2.drop i=l→l.length<n→vab vj2 n (u0,(i:Int),u2,u3,u4,u5,u6) K=vjl u0 u2 u3 u4 u5 u6 l  i (Sum.elim (fun z=>K (.inl (z.1,z.2,u2,u3,u4,u5,u6))) (fun z=>K (.inr (u0,z,u2,u3,u4,u5,u6)))):=
 vao h0 (fun i n a=>by intros;simp only [vab,vj2,vjl,a,decide_false,cond_false,Sum.elim_inr,Sum.elim_inl])
  (fun y l i n a f=>by intros;simp only [vab,vj2,vjl,a,decide_true,cond_true,and_self,if_true,Sum.elim_inl,Sum.elim_inr,f])
theorem wyn {u0 u2} {u3 u4} {u5 u6}(h0:u2.length<9223372036854775807){K:(q58T⊕q58T)→OR}  : vab vj2 Fuel (u0,(0:Int),u2,u3,u4,u5,u6) K=vjl u0 u2 u3 u4 u5 u6 u2  0 (Sum.elim (fun z=>K (.inl (z.1,z.2,u2,u3,u4,u5,u6))) (fun z=>K (.inr (u0,z,u2,u3,u4,u5,u6)))):=
 ws0 h0 u2 0 Fuel rfl (vak h0)
def vgj (u0:Bool)(u2:VL)(u3 u4:TL)(u5 u6:Int):List dTxn→(List Int)→Nat→(((Bool×Int×(List Int))⊕(Int×(List Int)))→OR)→OR
 |[],s7,i,k=>
  k (.inr ((i:Int),s7))
 |y::l,s7,i,k=>
  vh5 y (fun y1=>
   bif (!y1)then
    k (.inl (false,(i:Int),s7))
   else
    bif (y.2.1 != (3:Int))then
     k (.inl (false,(i:Int),s7))
    else
     bif (decide (y.2.2.2.1>u5))then
      k (.inl (false,(i:Int),s7))
     else
      bif (decide ((i:Int)>(0:Int)))then
       if 0≤(IntKind.wrap .i64 ((i:Int)-(1:Int)))∧(IntKind.wrap .i64 ((i:Int)-(1:Int)))<(u3.length:Int)then
        bif (decide ((rd (Ty.zero tTxn) u3 (IntKind.wrap .i64 ((i:Int)-(1:Int)))).2.2.2.1≥y.2.2.2.1))then
         k (.inl (false,(i:Int),s7))
        else
         if s7.length+[y.1].length≤VE.maxLen then
          vgj u0 u2 u3 u4 u5 u6 l (s7++[y.1]) (i+1) k
         else none
       else none
      else
       if s7.length+[y.1].length≤VE.maxLen then
        vgj u0 u2 u3 u4 u5 u6 l (s7++[y.1]) (i+1) k
       else none)
theorem wsl {u0 u2} {u3 u4} {u5 u6}(h0:u3.length<9223372036854775807){K:(q57T⊕q57T)→OR}:∀(l:List dTxn) (i n:Nat),u3.drop i=l→l.length<n→∀(s7:(List Int)),vab vi4 n (u0,(i:Int),u2,u3,u4,u5,u6,s7) K=vgj u0 u2 u3 u4 u5 u6 l s7 i (Sum.elim (fun z=>K (.inl (z.1,z.2.1,u2,u3,u4,u5,u6,z.2.2))) (fun z=>K (.inr (u0,z.1,u2,u3,u4,u5,u6,z.2)))):=
 vao h0 (fun i n a=>by intros;simp only [vab,vi4,vgj,a,decide_false,cond_false,Sum.elim_inr,Sum.elim_inl])
  (fun y l i n a f=>by intros;simp only [vab,vi4,vgj,a,decide_true,cond_true,and_self,if_true,Sum.elim_inl,Sum.elim_inr,f])
theorem wq1 {u0 u2} {u3 u4} {u5 u6}(h0:u3.length<9223372036854775807){K:(q57T⊕q57T)→OR}{s7:(List Int)}:vab vi4 Fuel (u0,(0:Int),u2,u3,u4,u5,u6,s7) K=vgj u0 u2 u3 u4 u5 u6 u3 s7 0 (Sum.elim (fun z=>K (.inl (z.1,z.2.1,u2,u3,u4,u5,u6,z.2.2))) (fun z=>K (.inr (u0,z.1,u2,u3,u4,u5,u6,z.2)))):=
 wsl h0 u3 0 Fuel rfl (vak h0) s7
def vgd (u0:Bool)(u2:VL)(u3 u4:TL)(u5 u6:Int):List dTxn→(List Int)→Nat→(((Bool×Int×(List Int))⊕(Int×(List Int)))→OR)→OR
 |[],s7,i,k=>
  k (.inr ((i:Int),s7))
 |y::l,s7,i,k=>
  vh5 y (fun y1=>
   bif (!y1)then
    k (.inl (false,(i:Int),s7))
   else
    bif (y.2.1 != (2:Int))then
     k (.inl (false,(i:Int),s7))
    else
     bif (decide (y.2.2.1>u5))then
      k (.inl (false,(i:Int),s7))
     else
      bif (decide ((i:Int)>(0:Int)))then
       if 0≤(IntKind.wrap .i64 ((i:Int)-(1:Int)))∧(IntKind.wrap .i64 ((i:Int)-(1:Int)))<(u4.length:Int)then
        bif (!(vai ((rd (Ty.zero tTxn) u4 (IntKind.wrap .i64 ((i:Int)-(1:Int)))).2.2.2.2.2.2.2) (y.2.2.2.2.2.2.2)))then
         k (.inl (false,(i:Int),s7))
        else
         if s7.length+[y.1].length≤VE.maxLen then
          vgd u0 u2 u3 u4 u5 u6 l (s7++[y.1]) (i+1) k
         else none
       else none
      else
       if s7.length+[y.1].length≤VE.maxLen then
        vgd u0 u2 u3 u4 u5 u6 l (s7++[y.1]) (i+1) k
       else none)
theorem wsu {u0 u2} {u3 u4} {u5 u6}(h0:u4.length<9223372036854775807){K:(q57T⊕q57T)→OR}:∀(l:List dTxn) (i n:Nat),u4.drop i=l→l.length<n→∀(s7:(List Int)),vab vj3 n (u0,(i:Int),u2,u3,u4,u5,u6,s7) K=vgd u0 u2 u3 u4 u5 u6 l s7 i (Sum.elim (fun z=>K (.inl (z.1,z.2.1,u2,u3,u4,u5,u6,z.2.2))) (fun z=>K (.inr (u0,z.1,u2,u3,u4,u5,u6,z.2)))):=
 vao h0 (fun i n a=>by intros;simp only [vab,vj3,vgd,a,decide_false,cond_false,Sum.elim_inr,Sum.elim_inl])
  (fun y l i n a f=>by intros;simp only [vab,vj3,vgd,a,decide_true,cond_true,and_self,if_true,Sum.elim_inl,Sum.elim_inr,f])
theorem wqt {u0 u2} {u3 u4} {u5 u6}(h0:u4.length<9223372036854775807){K:(q57T⊕q57T)→OR}{s7:(List Int)}:vab vj3 Fuel (u0,(0:Int),u2,u3,u4,u5,u6,s7) K=vgd u0 u2 u3 u4 u5 u6 u4 s7 0 (Sum.elim (fun z=>K (.inl (z.1,z.2.1,u2,u3,u4,u5,u6,z.2.2))) (fun z=>K (.inr (u0,z.1,u2,u3,u4,u5,u6,z.2)))):=
 wsu h0 u4 0 Fuel rfl (vak h0) s7
def vf0 (u0:Bool)(u1:VL)(u2 u3:TL)(u4 u5:Int)(k:q48T→OR):OR:=
  vjl u0 u1 u2 u3 u4 u5 u1  0 (Sum.elim (fun z1=>
   k (z1.1,u1,u2,u3,u4,u5)) (fun _=>
   vgj u0 u1 u2 u3 u4 u5 u2 ([]:List Int) 0 (Sum.elim (fun z3=>
    k (z3.1,u1,u2,u3,u4,u5)) (fun z4=>
    vgd u0 u1 u2 u3 u4 u5 u3 z4.2 0 (Sum.elim (fun z5=>
     k (z5.1,u1,u2,u3,u4,u5)) (fun z6=>
     vab vj1 Fuel (u0,(0:Int),u1,u2,u3,u4,u5,z6.2) (Sum.elim (fun z7=>
      k (true,z7.2.2.1,z7.2.2.2.1,z7.2.2.2.2.1,z7.2.2.2.2.2.1,z7.2.2.2.2.2.2.1)) (fun z8=>
      k (z8.1,z8.2.2.1,z8.2.2.2.1,z8.2.2.2.2.1,z8.2.2.2.2.2.1,z8.2.2.2.2.2.2.1)))))))))
theorem v07 {u0 u1} {u2 u3} {u4 u5}(h0:u3.length<9223372036854775807)(h1:u2.length<9223372036854775807)(h2:u1.length<9223372036854775807){K:q48T→OR}:vds (u0,u1,u2,u3,u4,u5) K=vf0 u0 u1 u2 u3 u4 u5 (fun z=>K (z.1,z.2.1,z.2.2.1,z.2.2.2.1,z.2.2.2.2.1,z.2.2.2.2.2)):=by
 simp only [vds,vf0,(wqt h0),(wq1 h1),(wyn h2),Sum.elim_inl,Sum.elim_inr]
def whl (a0:va3)(k:Bool→OR):OR:=
 vsd a0.1 (fun y30=>
  bif (!y30)then
   k false
  else
   bif (decide ((a0.2.1.length:Int)>(12:Int)))then
    k false
   else
    bif (decide ((a0.2.2.1.length:Int)>(3:Int)))then
     k false
    else
     vch a0.2.2.2.1 (0:Int) (9999:Int) (fun y31=>
      bif (!y31)then
       k false
      else
       vch a0.2.2.2.2 (1:Int) (9999:Int) (fun y32=>
        bif (!y32)then
         k false
        else
         vf0 false a0.1 a0.2.1 a0.2.2.1 a0.2.2.2.1 a0.2.2.2.2 (fun z33=>
          k z33.1))))
theorem w8c {a0:va3}(h0:a0.2.2.1.length<9223372036854775807)(h1:a0.2.1.length<9223372036854775807)(h2:a0.1.length<9223372036854775807){k:Bool→OR}:vir a0 k=whl a0 k:=by
 rw [wh8]
 simp only [wbc,whl,(v07 h0 h1 h2),Sum.elim_inl,Sum.elim_inr]
def vhf (u0:TL):List dTxn→TL→Nat→((Int×TL)→OR)→OR
 |[],s2,i,k=>
  k ((i:Int),s2)
 |y::l,s2,i,k=>
  vde y (fun y1=>
   let y1h:=y1.2.2.2.2
   if s2.length+[(y1.1,(y1.2.1,(y1.2.2.1,(y1.2.2.2.1,(y1h.2.2.1,(y1h.2.2.2,(y1h.1,y1h.2.1)))))))].length≤VE.maxLen then
    vhf u0 l (s2++[(y1.1,(y1.2.1,(y1.2.2.1,(y1.2.2.2.1,(y1h.2.2.1,(y1h.2.2.2,(y1h.1,y1h.2.1)))))))]) (i+1) k
   else none)
theorem wvj {u0}(h0:u0.length<9223372036854775807){K:q9T→OR}:∀(l:List dTxn) (i n:Nat),u0.drop i=l→l.length<n→∀(s2:TL),vab vka n (u0,(i:Int),s2) K=vhf u0 l s2 i (fun z=>K (u0,z.1,z.2)):=
 vao h0 (fun i n a=>by intros;simp only [vab,vka,vhf,a,decide_false,cond_false,Sum.elim_inr,Sum.elim_inl])
  (fun y l i n a f=>by intros;simp only [vab,vka,vhf,a,decide_true,cond_true,and_self,if_true,Sum.elim_inl,Sum.elim_inr,f])
theorem wx5 {u0}(h0:u0.length<9223372036854775807){K:q9T→OR}{s2:TL}:vab vka Fuel (u0,(0:Int),s2) K=vhf u0 u0 s2 0 (fun z=>K (u0,z.1,z.2)):=
 wvj h0 u0 0 Fuel rfl (vak h0) s2
def wh2 (a0:TL)(k:TL→OR):OR:=
 vhf a0 a0 ([]:List dTxn) 0 (fun z30=>
  k z30.2)
theorem w6q {a0:TL}(h0:a0.length<9223372036854775807){k:TL→OR}:vte a0 k=wh2 a0 k:=by
 rw [wiy]
 simp only [wb5,wh2,(wx5 h0),Sum.elim_inl,Sum.elim_inr]
def vco (u0:Bool)(u1 u2:Int)(u3 u4 u5:Int)(u6:RL)(u7:WL)(u8:Bool)(u9 u10:ByteArray)(u11:Bool)(u12:VL)(u13 u14:TL)(u15 u16:Int)(k:Bool→OR):OR:=
  bif (u1==(4:Int))then
   vir (u12,(u13,(u14,(u15,u16)))) (fun y1=>
    k y1)
  else
   vvu (u12,(u13,(u14,(u15,u16)))) (fun y2=>
    k y2)
theorem v1o {u0 u1} {u2 u3} {u4 u5} {u6 u7} {u8 u9} {u10 u11} {u12 u13} {u14 u15 u16}  {K:q64T→OR}:vb4 (u0,u1,u2,u3,u4,u5,u6,u7,u8,u9,u10,u11,u12,u13,u14,u15,u16) K=vco u0 u1 u2 u3 u4 u5 u6 u7 u8 u9 u10 u11 u12 u13 u14 u15 u16 (fun z=>K (z,u1,u2,u3,u4,u5,u6,u7,u8,u9,u10,u11,u12,u13,u14,u15,u16)):=by
 simp only [vb4,vco,Sum.elim_inl,Sum.elim_inr]
def vat (u0:Bool)(u1 u2:Int)(u3 u4 u5:Int)(u6:RL)(u7:WL)(u8:Bool)(u9 u10:ByteArray)(u11:Bool)(u12:VL)(u13 u14:TL)(u15 u16:Int)(k:Bool→OR):OR:=
  bif (u1==(3:Int))then
   vfk u10 (fun y1=>
    bif (!y1)then
     k false
    else
     bif (u1 != (3:Int))then
      bif (!(vaj u10 (⟨#[]⟩:ByteArray)))then
       k false
      else
       bif u11 then
        k false
       else
        vco u0 u1 u2 u3 u4 u5 u6 u7 u8 u9 u10 u11 u12 u13 u14 u15 u16 (fun z2=>
         k z2)
     else
      vco u0 u1 u2 u3 u4 u5 u6 u7 u8 u9 u10 u11 u12 u13 u14 u15 u16 (fun z3=>
       k z3))
  else
   bif (u1 != (3:Int))then
    bif (!(vaj u10 (⟨#[]⟩:ByteArray)))then
     k false
    else
     bif u11 then
      k false
     else
      vco u0 u1 u2 u3 u4 u5 u6 u7 u8 u9 u10 u11 u12 u13 u14 u15 u16 (fun z4=>
       k z4)
   else
    vco u0 u1 u2 u3 u4 u5 u6 u7 u8 u9 u10 u11 u12 u13 u14 u15 u16 (fun z5=>
     k z5)
theorem vyz {u0 u1} {u2 u3} {u4 u5} {u6 u7} {u8 u9} {u10 u11} {u12 u13} {u14 u15 u16}  {K:q64T→OR}:var (u0,u1,u2,u3,u4,u5,u6,u7,u8,u9,u10,u11,u12,u13,u14,u15,u16) K=vat u0 u1 u2 u3 u4 u5 u6 u7 u8 u9 u10 u11 u12 u13 u14 u15 u16 (fun z=>K (z,u1,u2,u3,u4,u5,u6,u7,u8,u9,u10,u11,u12,u13,u14,u15,u16)):=by
 simp only [var,vat,v1o,Sum.elim_inl,Sum.elim_inr]
def vd0 (u0 u1:Bool)(u2 u3:Int)(u4 u5 u6:Int)(u7:RL)(u8:WL)(u9:Bool)(u10 u11:ByteArray)(u12:Bool)(u13:VL)(u14 u15:TL)(u16 u17:Int)(k:(Bool⊕Bool)→OR):OR:=
  bif u1 then
   vh5 (u3,(u4,(u5,(u6,(u7,(u8,(u9,u10))))))) (fun y1=>
    bif (!y1)then
     k (.inl false)
    else
     bif (!u1)then
      vpu (u3,(u4,(u5,(u6,(u7,(u8,(u9,u10))))))) (fun y2=>
       bif (!y2)then
        k (.inl false)
       else
        bif (u2==(1:Int))then
         bif (u4 != (3:Int))then
          k (.inl false)
         else
          bif (u2==(2:Int))then
           bif (u4 != (2:Int))then
            k (.inl false)
           else
            vat u0 u2 u3 u4 u5 u6 u7 u8 u9 u10 u11 u12 u13 u14 u15 u16 u17 (fun z3=>
             k (.inr z3))
          else
           vat u0 u2 u3 u4 u5 u6 u7 u8 u9 u10 u11 u12 u13 u14 u15 u16 u17 (fun z4=>
            k (.inr z4))
        else
         bif (u2==(2:Int))then
          bif (u4 != (2:Int))then
           k (.inl false)
          else
           vat u0 u2 u3 u4 u5 u6 u7 u8 u9 u10 u11 u12 u13 u14 u15 u16 u17 (fun z5=>
            k (.inr z5))
         else
          vat u0 u2 u3 u4 u5 u6 u7 u8 u9 u10 u11 u12 u13 u14 u15 u16 u17 (fun z6=>
           k (.inr z6)))
     else
      bif (u2==(1:Int))then
       bif (u4 != (3:Int))then
        k (.inl false)
       else
        bif (u2==(2:Int))then
         bif (u4 != (2:Int))then
          k (.inl false)
         else
          vat u0 u2 u3 u4 u5 u6 u7 u8 u9 u10 u11 u12 u13 u14 u15 u16 u17 (fun z7=>
           k (.inr z7))
        else
         vat u0 u2 u3 u4 u5 u6 u7 u8 u9 u10 u11 u12 u13 u14 u15 u16 u17 (fun z8=>
          k (.inr z8))
      else
       bif (u2==(2:Int))then
        bif (u4 != (2:Int))then
         k (.inl false)
        else
         vat u0 u2 u3 u4 u5 u6 u7 u8 u9 u10 u11 u12 u13 u14 u15 u16 u17 (fun z9=>
          k (.inr z9))
       else
        vat u0 u2 u3 u4 u5 u6 u7 u8 u9 u10 u11 u12 u13 u14 u15 u16 u17 (fun z10=>
         k (.inr z10)))
  else
   bif (!u1)then
    vpu (u3,(u4,(u5,(u6,(u7,(u8,(u9,u10))))))) (fun y11=>
     bif (!y11)then
      k (.inl false)
     else
      bif (u2==(1:Int))then
       bif (u4 != (3:Int))then
        k (.inl false)
       else
        bif (u2==(2:Int))then
         bif (u4 != (2:Int))then
          k (.inl false)
         else
          vat u0 u2 u3 u4 u5 u6 u7 u8 u9 u10 u11 u12 u13 u14 u15 u16 u17 (fun z12=>
           k (.inr z12))
        else
         vat u0 u2 u3 u4 u5 u6 u7 u8 u9 u10 u11 u12 u13 u14 u15 u16 u17 (fun z13=>
          k (.inr z13))
      else
       bif (u2==(2:Int))then
        bif (u4 != (2:Int))then
         k (.inl false)
        else
         vat u0 u2 u3 u4 u5 u6 u7 u8 u9 u10 u11 u12 u13 u14 u15 u16 u17 (fun z14=>
          k (.inr z14))
       else
        vat u0 u2 u3 u4 u5 u6 u7 u8 u9 u10 u11 u12 u13 u14 u15 u16 u17 (fun z15=>
         k (.inr z15)))
   else
    bif (u2==(1:Int))then
     bif (u4 != (3:Int))then
      k (.inl false)
     else
      bif (u2==(2:Int))then
       bif (u4 != (2:Int))then
        k (.inl false)
       else
        vat u0 u2 u3 u4 u5 u6 u7 u8 u9 u10 u11 u12 u13 u14 u15 u16 u17 (fun z16=>
         k (.inr z16))
      else
       vat u0 u2 u3 u4 u5 u6 u7 u8 u9 u10 u11 u12 u13 u14 u15 u16 u17 (fun z17=>
        k (.inr z17))
    else
     bif (u2==(2:Int))then
      bif (u4 != (2:Int))then
       k (.inl false)
      else
       vat u0 u2 u3 u4 u5 u6 u7 u8 u9 u10 u11 u12 u13 u14 u15 u16 u17 (fun z18=>
        k (.inr z18))
     else
      vat u0 u2 u3 u4 u5 u6 u7 u8 u9 u10 u11 u12 u13 u14 u15 u16 u17 (fun z19=>
       k (.inr z19))
theorem v06 {u0 u1} {u2 u3} {u4 u5} {u6 u7} {u8 u9} {u10 u11} {u12 u13} {u14 u15} {u16 u17}  {K:(q55T⊕q64T)→OR}:vc1 (u0,u1,u2,u3,u4,u5,u6,u7,u8,u9,u10,u11,u12,u13,u14,u15,u16,u17) K=vd0 u0 u1 u2 u3 u4 u5 u6 u7 u8 u9 u10 u11 u12 u13 u14 u15 u16 u17 (Sum.elim (fun z=>K (.inl (z,u1,u2,u3,u4,u5,u6,u7,u8,u9,u10,u11,u12,u13,u14,u15,u16,u17))) (fun z=>K (.inr (z,u2,u3,u4,u5,u6,u7,u8,u9,u10,u11,u12,u13,u14,u15,u16,u17)))):=by
 simp only [vc1,vd0,vyz,Sum.elim_inl,Sum.elim_inr]
def wgh (a0:vcg)(k:Bool→OR):OR:=
 vch a0.1 (1:Int) (4:Int) (fun y30=>
  bif (!y30)then
   k false
  else
   bif (a0.1==(1:Int))then
    vd0 false true a0.1 a0.2.1.1 a0.2.1.2.1 a0.2.1.2.2.1 a0.2.1.2.2.2.1 a0.2.1.2.2.2.2.1 a0.2.1.2.2.2.2.2.1 a0.2.1.2.2.2.2.2.2.1 a0.2.1.2.2.2.2.2.2.2 a0.2.2.1 a0.2.2.2.1 a0.2.2.2.2.1 a0.2.2.2.2.2.1 a0.2.2.2.2.2.2.1 a0.2.2.2.2.2.2.2.1 a0.2.2.2.2.2.2.2.2 (Sum.elim (fun z31=>
     k z31) (fun z32=>
     k z32))
   else
    vd0 false (a0.1==(2:Int)) a0.1 a0.2.1.1 a0.2.1.2.1 a0.2.1.2.2.1 a0.2.1.2.2.2.1 a0.2.1.2.2.2.2.1 a0.2.1.2.2.2.2.2.1 a0.2.1.2.2.2.2.2.2.1 a0.2.1.2.2.2.2.2.2.2 a0.2.2.1 a0.2.2.2.1 a0.2.2.2.2.1 a0.2.2.2.2.2.1 a0.2.2.2.2.2.2.1 a0.2.2.2.2.2.2.2.1 a0.2.2.2.2.2.2.2.2 (Sum.elim (fun z33=>
     k z33) (fun z34=>
     k z34)))
theorem w9k {a0:vcg}  {k:Bool→OR}:vv5 a0 k=wgh a0 k:=by
 rw [wip]
 simp only [v9o,wgh,v06,Sum.elim_inl,Sum.elim_inr]
def vjo (u0:RL)(u1:WL)(u2:Bool)(u3:Int):List vb9→Nat→(((Bool×Int)⊕Int)→OR)→OR
 |[],i,k=>
  k (.inr (i:Int))
 |y::l,i,k=>
  if 0≤u3∧u3<(u0.length:Int)then
   vwk (rd (Ty.zero tRange) u0 u3) y.1 (fun y1=>
    bif y1 then
     k (.inl (true,(i:Int)))
    else
     vjo u0 u1 u2 u3 l (i+1) k)
  else none
theorem wqb {u0 u1} {u2 u3}(h0:u1.length<9223372036854775807){K:(q3T⊕q3T)→OR}:∀(l:List vb9) (i n:Nat),u1.drop i=l→l.length<n→vab vjc n (u0,u1,u2,u3,(i:Int)) K=vjo u0 u1 u2 u3 l  i (Sum.elim (fun z=>K (.inl (u0,u1,z.1,u3,z.2))) (fun z=>K (.inr (u0,u1,u2,u3,z)))):=
 vao h0 (fun i n a=>by intros;simp only [vab,vjc,vjo,a,decide_false,cond_false,Sum.elim_inr,Sum.elim_inl])
  (fun y l i n a f=>by intros;simp only [vab,vjc,vjo,a,decide_true,cond_true,and_self,if_true,Sum.elim_inl,Sum.elim_inr,f])
theorem wct {u0 u1} {u2 u3}(h0:u1.length<9223372036854775807){K:(q3T⊕q3T)→OR}  : vab vjc Fuel (u0,u1,u2,u3,(0:Int)) K=vjo u0 u1 u2 u3 u1  0 (Sum.elim (fun z=>K (.inl (u0,u1,z.1,u3,z.2))) (fun z=>K (.inr (u0,u1,u2,u3,z)))):=
 wqb h0 u1 0 Fuel rfl (vak h0)
def vjk (u0:RL)(u1:WL)(u2:Bool):List vbz→Nat→((Int⊕(Bool×Int))→OR)→OR
 |[],i,k=>
  k (.inl (i:Int))
 |y::l,i,k=>
  vjo u0 u1 u2 (i:Int) u1  0 (Sum.elim (fun z1=>
   k (.inr (z1.1,(i:Int)))) (fun _=>
   vjk u0 u1 u2 l (i+1) k))
theorem wsh {u0 u1 u2}(h0:u0.length<9223372036854775807)(h1:u1.length<9223372036854775807){K:(q4T⊕q4T)→OR}:∀(l:List vbz) (i n:Nat),u0.drop i=l→l.length<n→vab vj5 n (u0,u1,u2,(i:Int)) K=vjk u0 u1 u2 l  i (Sum.elim (fun z=>K (.inl (u0,u1,u2,z))) (fun z=>K (.inr (u0,u1,z.1,z.2)))):=
 vao h0 (fun i n a=>by intros;simp only [vab,vj5,vjk,a,decide_false,cond_false,Sum.elim_inr,Sum.elim_inl,(wct h1)])
  (fun y l i n a f=>by intros;simp only [vab,vj5,vjk,a,decide_true,cond_true,and_self,if_true,Sum.elim_inl,Sum.elim_inr,f,(wct h1)])
theorem wqv {u0 u1 u2}(h0:u0.length<9223372036854775807)(h1:u1.length<9223372036854775807){K:(q4T⊕q4T)→OR}  : vab vj5 Fuel (u0,u1,u2,(0:Int)) K=vjk u0 u1 u2 u0  0 (Sum.elim (fun z=>K (.inl (u0,u1,u2,z))) (fun z=>K (.inr (u0,u1,z.1,z.2)))):=
 wsh h0 h1 u0 0 Fuel rfl (vak h0)
def wi0 (a0:RL)(a1:WL)(k:Bool→OR):OR:=
 vjk a0 a1 false a0  0 (Sum.elim (fun _=>
  k false) (fun z31=>
  k z31.1))
theorem w8s {a0:RL}{a1:WL}(h0:a0.length<9223372036854775807)(h1:a1.length<9223372036854775807){k:Bool→OR}:vwp a0 a1 k=wi0 a0 a1 k:=by
 rw [wjg]
 simp only [v9q,wi0,(wqv h0 h1),Sum.elim_inl,Sum.elim_inr]
def vhj (u0:TL)(u1:Bool)(u3 u4:Int)(u5 u6:Int)(u7:RL)(u8:WL)(u9:Bool)(u10:ByteArray):List dTxn→Nat→(((Bool×Int)⊕Int)→OR)→OR
 |[],i,k=>
  k (.inr (i:Int))
 |y::l,i,k=>
  bif (y.2.1==(3:Int))then
   vn8 (u3,(u4,(u5,(u6,(u7,(u8,(u9,u10))))))) y (fun y1=>
    bif y1 then
     k (.inl (true,(i:Int)))
    else
     vhj u0 u1 u3 u4 u5 u6 u7 u8 u9 u10 l (i+1) k)
  else
   vhj u0 u1 u3 u4 u5 u6 u7 u8 u9 u10 l (i+1) k
theorem wus {u0 u1} {u3 u4} {u5 u6} {u7 u8} {u9 u10}(h0:u0.length<9223372036854775807){K:(q8T⊕q8T)→OR}:∀(l:List dTxn) (i n:Nat),u0.drop i=l→l.length<n→vab vi1 n (u0,u1,(i:Int),u3,u4,u5,u6,u7,u8,u9,u10) K=vhj u0 u1 u3 u4 u5 u6 u7 u8 u9 u10 l  i (Sum.elim (fun z=>K (.inl (u0,z.1,z.2,u3,u4,u5,u6,u7,u8,u9,u10))) (fun z=>K (.inr (u0,u1,z,u3,u4,u5,u6,u7,u8,u9,u10)))):=
 vao h0 (fun i n a=>by intros;simp only [vab,vi1,vhj,a,decide_false,cond_false,Sum.elim_inr,Sum.elim_inl])
  (fun y l i n a f=>by intros;simp only [vab,vi1,vhj,a,decide_true,cond_true,and_self,if_true,Sum.elim_inl,Sum.elim_inr,f])
theorem wso {u0 u1} {u3 u4} {u5 u6} {u7 u8} {u9 u10}(h0:u0.length<9223372036854775807){K:(q8T⊕q8T)→OR}  : vab vi1 Fuel (u0,u1,(0:Int),u3,u4,u5,u6,u7,u8,u9,u10) K=vhj u0 u1 u3 u4 u5 u6 u7 u8 u9 u10 u0  0 (Sum.elim (fun z=>K (.inl (u0,z.1,z.2,u3,u4,u5,u6,u7,u8,u9,u10))) (fun z=>K (.inr (u0,u1,z,u3,u4,u5,u6,u7,u8,u9,u10)))):=
 wus h0 u0 0 Fuel rfl (vak h0)
def wfi (a0:dTxn)(a1:TL)(k:Bool→OR):OR:=
 vhj a1 false a0.1 a0.2.1 a0.2.2.1 a0.2.2.2.1 a0.2.2.2.2.1 a0.2.2.2.2.2.1 a0.2.2.2.2.2.2.1 a0.2.2.2.2.2.2.2 a1  0 (Sum.elim (fun z30=>
  k z30.1) (fun _=>
  k false))
theorem w71 {a0:dTxn}{a1:TL}(h0:a1.length<9223372036854775807){k:Bool→OR}:vmi a0 a1 k=wfi a0 a1 k:=by
 rw [wg1]
 simp only [wbq,wfi,(wso h0),Sum.elim_inl,Sum.elim_inr]
def vd7 (u0:Int)(u1:VL)(u2 u3:TL)(u4 u5:Int)(u6 u7:Int)(u8 u9:Int)(u10:RL)(u11:WL)(u12:Bool)(u13:ByteArray)(u14 u15:Int)(u16 u17:Int)(u18 u19:Int)(u20 u21:Int)(u22:RL)(u23:WL)(u24:Bool)(u25:ByteArray)(u26 u27:Int)(u28 u29:Int)(u30:Bool)(u31:ByteArray)(u32:VL)(u33 u34:TL)(u35:VL)(u36 u37:TL)(u38:RL)(u39:WL)(k:TL→OR):OR:=
  if u37.length+[(u26,(u27,(u28,(u29,(u38,(u39,(u30,u31)))))))].length≤VE.maxLen then
   k (u37++[(u26,(u27,(u28,(u29,(u38,(u39,(u30,u31)))))))])
  else none
theorem voc {u0 u1} {u2 u3} {u4 u5} {u6 u7} {u8 u9} {u10 u11} {u12 u13} {u14 u15} {u16 u17} {u18 u19} {u20 u21} {u22 u23} {u24 u25} {u26 u27} {u28 u29} {u30 u31} {u32 u33} {u34 u35} {u36 u37} {u38 u39}  {K:q80T→OR}:vc0 (u0,u1,u2,u3,u4,u5,u6,u7,u8,u9,u10,u11,u12,u13,u14,u15,u16,u17,u18,u19,u20,u21,u22,u23,u24,u25,u26,u27,u28,u29,u30,u31,u32,u33,u34,u35,u36,u37,u38,u39) K=vd7 u0 u1 u2 u3 u4 u5 u6 u7 u8 u9 u10 u11 u12 u13 u14 u15 u16 u17 u18 u19 u20 u21 u22 u23 u24 u25 u26 u27 u28 u29 u30 u31 u32 u33 u34 u35 u36 u37 u38 u39 (fun z=>K (u0,u1,u2,u3,u4,u5,u6,u7,u8,u9,u10,u11,u12,u13,u14,u15,u16,u17,u18,u19,u20,u21,u22,u23,u24,u25,u26,u27,u28,u29,u38,u39,u30,u31,u32,u33,u34,u35,u36,z)):=by
 simp only [vc0,vd7,Sum.elim_inl,Sum.elim_inr]
def vey (u1:VL)(u2 u3:TL)(u4 u5:Int)(u6 u7:Int)(u8 u9:Int)(u10:RL)(u11:WL)(u12:Bool)(u13:ByteArray)(u14 u15:Int)(u16 u17:Int)(u18 u19:Int)(u20 u21:Int)(u22:RL)(u23:WL)(u24:Bool)(u25:ByteArray)(u26:VL)(u27 u28:TL)(u29:VL)(u30:TL):List dTxn→TL→Nat→((Int×TL)→OR)→OR
 |[],s31,i,k=>
  k ((i:Int),s31)
 |y::l,s31,i,k=>
  vde y (fun y1=>
   let y1h:=y1.2.2.2.2
   bif (y1.1==u6)then
    vey u1 u2 u3 u4 u5 u6 u7 u8 u9 u10 u11 u12 u13 u14 u15 u16 u17 u18 u19 u20 u21 u22 u23 u24 u25 u26 u27 u28 u29 u30 l s31 (i+1) k
   else
    vn8 (y1.1,(y1.2.1,(y1.2.2.1,(y1.2.2.2.1,(y1h.2.2.1,(y1h.2.2.2,(y1h.1,y1h.2.1))))))) (u18,(u19,(u20,(u21,(u22,(u23,(u24,u25))))))) (fun y2=>
     bif y2 then
      vd7 (i:Int) u1 u2 u3 u4 u5 u6 u7 u8 u9 u10 u11 u12 u13 u14 u15 u16 u17 u18 u19 u20 u21 u22 u23 u24 u25 y1.1 y1.2.1 y1.2.2.1 y1.2.2.2.1 true y1h.2.1 u26 u27 u28 u29 u30 s31 y1h.2.2.1 y1h.2.2.2 (fun z3=>
       vey u1 u2 u3 u4 u5 u6 u7 u8 u9 u10 u11 u12 u13 u14 u15 u16 u17 u18 u19 u20 u21 u22 u23 u24 u25 u26 u27 u28 u29 u30 l z3 (i+1) k)
     else
      vd7 (i:Int) u1 u2 u3 u4 u5 u6 u7 u8 u9 u10 u11 u12 u13 u14 u15 u16 u17 u18 u19 u20 u21 u22 u23 u24 u25 y1.1 y1.2.1 y1.2.2.1 y1.2.2.2.1 y1h.1 y1h.2.1 u26 u27 u28 u29 u30 s31 y1h.2.2.1 y1h.2.2.2 (fun z4=>
       vey u1 u2 u3 u4 u5 u6 u7 u8 u9 u10 u11 u12 u13 u14 u15 u16 u17 u18 u19 u20 u21 u22 u23 u24 u25 u26 u27 u28 u29 u30 l z4 (i+1) k)))
theorem wr0 {u1 u2} {u3 u4} {u5 u6} {u7 u8} {u9 u10} {u11 u12} {u13 u14} {u15 u16} {u17 u18} {u19 u20} {u21 u22} {u23 u24} {u25 u26} {u27 u28} {u29 u30}(h0:u3.length<9223372036854775807){K:q79T→OR}:∀(l:List dTxn) (i n:Nat),u3.drop i=l→l.length<n→∀(s31:TL),vab vi7 n ((i:Int),u1,u2,u3,u4,u5,u6,u7,u8,u9,u10,u11,u12,u13,u14,u15,u16,u17,u18,u19,u20,u21,u22,u23,u24,u25,u26,u27,u28,u29,u30,s31) K=vey u1 u2 u3 u4 u5 u6 u7 u8 u9 u10 u11 u12 u13 u14 u15 u16 u17 u18 u19 u20 u21 u22 u23 u24 u25 u26 u27 u28 u29 u30 l s31 i (fun z=>K (z.1,u1,u2,u3,u4,u5,u6,u7,u8,u9,u10,u11,u12,u13,u14,u15,u16,u17,u18,u19,u20,u21,u22,u23,u24,u25,u26,u27,u28,u29,u30,z.2)):=
 vao h0 (fun i n a=>by intros;simp only [vab,vi7,vey,a,decide_false,cond_false,Sum.elim_inr,Sum.elim_inl,voc])
  (fun y l i n a f=>by intros;simp only [vab,vi7,vey,a,decide_true,cond_true,and_self,if_true,Sum.elim_inl,Sum.elim_inr,f,voc])
theorem wyt {u1 u2} {u3 u4} {u5 u6} {u7 u8} {u9 u10} {u11 u12} {u13 u14} {u15 u16} {u17 u18} {u19 u20} {u21 u22} {u23 u24} {u25 u26} {u27 u28} {u29 u30}(h0:u3.length<9223372036854775807){K:q79T→OR}{s31:TL}:vab vi7 Fuel ((0:Int),u1,u2,u3,u4,u5,u6,u7,u8,u9,u10,u11,u12,u13,u14,u15,u16,u17,u18,u19,u20,u21,u22,u23,u24,u25,u26,u27,u28,u29,u30,s31) K=vey u1 u2 u3 u4 u5 u6 u7 u8 u9 u10 u11 u12 u13 u14 u15 u16 u17 u18 u19 u20 u21 u22 u23 u24 u25 u26 u27 u28 u29 u30 u3 s31 0 (fun z=>K (z.1,u1,u2,u3,u4,u5,u6,u7,u8,u9,u10,u11,u12,u13,u14,u15,u16,u17,u18,u19,u20,u21,u22,u23,u24,u25,u26,u27,u28,u29,u30,z.2)):=
 wr0 h0 u3 0 Fuel rfl (vak h0) s31
def vdh (u0:VL)(u1 u2:TL)(u3 u4:Int)(u5 u6:Int)(u7 u8:Int)(u9:RL)(u10:WL)(u11:Bool)(u12:ByteArray)(u13 u14:Int)(u15 u16:Int)(u17 u18:Int)(u19 u20:Int)(u21:Bool)(u22:ByteArray)(u23:VL)(u24 u25:TL)(u26:VL)(u27 u28:TL)(u29:RL)(u30:WL)(k:(Int×Int×Int×Int×Int×Int×ByteArray×VL×TL×TL)→OR):OR:=
  vwi u0 u30 (IntKind.wrap .i64 (u3+(1:Int))) (fun y1=>
   if u27.length+[(u17,((3:Int),(u19,((IntKind.wrap .i64 (u3+(1:Int))),(u29,(u30,(u21,(⟨#[]⟩:ByteArray))))))))].length≤VE.maxLen then
    vey u0 u1 u2 u3 u4 u5 u6 u7 u8 u9 u10 u11 u12 u13 u14 (IntKind.wrap .i64 (u3+(1:Int))) u16 u17 (3:Int) u19 (IntKind.wrap .i64 (u3+(1:Int))) u29 u30 u21 (⟨#[]⟩:ByteArray) u23 u24 u25 y1 (u27++[(u17,((3:Int),(u19,((IntKind.wrap .i64 (u3+(1:Int))),(u29,(u30,(u21,(⟨#[]⟩:ByteArray))))))))]) u2 ([]:List dTxn) 0 (fun z2=>
     bif (decide (u5≥u16))then
      k ((IntKind.wrap .i64 (u3+(1:Int))),(IntKind.wrap .i64 (u5+(1:Int))),(IntKind.wrap .i64 (u3+(1:Int))),(IntKind.wrap .i64 (u5+(1:Int))),(3:Int),(IntKind.wrap .i64 (u3+(1:Int))),(⟨#[]⟩:ByteArray),y1,(u27++[(u17,((3:Int),(u19,((IntKind.wrap .i64 (u3+(1:Int))),(u29,(u30,(u21,(⟨#[]⟩:ByteArray))))))))]),z2.2)
     else
      k ((IntKind.wrap .i64 (u3+(1:Int))),u16,(IntKind.wrap .i64 (u3+(1:Int))),u16,(3:Int),(IntKind.wrap .i64 (u3+(1:Int))),(⟨#[]⟩:ByteArray),y1,(u27++[(u17,((3:Int),(u19,((IntKind.wrap .i64 (u3+(1:Int))),(u29,(u30,(u21,(⟨#[]⟩:ByteArray))))))))]),z2.2))
   else none)
theorem vyv {u0 u1} {u2 u3} {u4 u5} {u6 u7} {u8 u9} {u10 u11} {u12 u13} {u14 u15} {u16 u17} {u18 u19} {u20 u21} {u22 u23} {u24 u25} {u26 u27} {u28 u29 u30}(h0:u2.length<9223372036854775807){K:q19T→OR}:vc4 (u0,u1,u2,u3,u4,u5,u6,u7,u8,u9,u10,u11,u12,u13,u14,u15,u16,u17,u18,u19,u20,u21,u22,u23,u24,u25,u26,u27,u28,u29,u30) K=vdh u0 u1 u2 u3 u4 u5 u6 u7 u8 u9 u10 u11 u12 u13 u14 u15 u16 u17 u18 u19 u20 u21 u22 u23 u24 u25 u26 u27 u28 u29 u30 (fun z=>K (u0,u1,u2,u3,u4,u5,u6,u7,u8,u9,u10,u11,u12,z.1,z.2.1,z.2.2.1,z.2.2.2.1,u17,z.2.2.2.2.1,u19,z.2.2.2.2.2.1,u29,u30,u21,z.2.2.2.2.2.2.1,z.2.2.2.2.2.2.2.1,z.2.2.2.2.2.2.2.2.1,z.2.2.2.2.2.2.2.2.2)):=by
 simp only [vc4,vdh,(wyt h0),Sum.elim_inl,Sum.elim_inr]
def wfz (a0:va3)(a1:dTxn)(k:q86T→OR):OR:=
 vdj a0 (fun y30=>
  vde a1 (fun y31=>
   let y31h:=y31.2.2.2.2
   bif a1.2.2.2.2.2.2.1 then
    vdh a0.1 a0.2.1 a0.2.2.1 a0.2.2.2.1 a0.2.2.2.2 a1.1 a1.2.1 a1.2.2.1 a1.2.2.2.1 a1.2.2.2.2.1 a1.2.2.2.2.2.1 a1.2.2.2.2.2.2.1 a1.2.2.2.2.2.2.2 (0:Int) (0:Int) y30.1 y30.2.1 y31.1 y31.2.1 y31.2.2.1 y31.2.2.2.1 true y31h.2.1 ([]:List vah) ([]:List dTxn) ([]:List dTxn) y30.2.2.1 y30.2.2.2.1 y30.2.2.2.2 y31h.2.2.1 y31h.2.2.2 (fun z32=>
     k (z32.1,z32.2.1,z32.2.2.2.2.2.2.2.1,z32.2.2.2.2.2.2.2.2.1,z32.2.2.2.2.2.2.2.2.2))
   else
    vmi a1 a0.2.1 (fun y33=>
     vdh a0.1 a0.2.1 a0.2.2.1 a0.2.2.2.1 a0.2.2.2.2 a1.1 a1.2.1 a1.2.2.1 a1.2.2.2.1 a1.2.2.2.2.1 a1.2.2.2.2.2.1 a1.2.2.2.2.2.2.1 a1.2.2.2.2.2.2.2 (0:Int) (0:Int) y30.1 y30.2.1 y31.1 y31.2.1 y31.2.2.1 y31.2.2.2.1 y33 y31h.2.1 ([]:List vah) ([]:List dTxn) ([]:List dTxn) y30.2.2.1 y30.2.2.2.1 y30.2.2.2.2 y31h.2.2.1 y31h.2.2.2 (fun z34=>
      k (z34.1,z34.2.1,z34.2.2.2.2.2.2.2.1,z34.2.2.2.2.2.2.2.2.1,z34.2.2.2.2.2.2.2.2.2)))))
theorem w7y {a0:va3}{a1:dTxn}(h0:a0.2.2.1.length<9223372036854775807){k:q86T→OR}:vtd a0 a1 k=wfz a0 a1 k:=by
 rw [wjh]
 simp only [wam,wfz,(vyv h0),Sum.elim_inl,Sum.elim_inr]
def vge (u0:ByteArray)(u1:Int)(u3:VL)(u4 u5:TL)(u6 u7:Int):List dTxn→Nat→(((Int×Int)⊕Int)→OR)→OR
 |[],i,k=>
  k (.inr (i:Int))
 |y::l,i,k=>
  bif (vaj (y.2.2.2.2.2.2.2) u0)then
   k (.inl ((i:Int),(i:Int)))
  else
   vge u0 u1 u3 u4 u5 u6 u7 l (i+1) k
theorem wvb {u0 u1} {u3 u4} {u5 u6 u7}(h0:u5.length<9223372036854775807){K:(q72T⊕q72T)→OR}:∀(l:List dTxn) (i n:Nat),u5.drop i=l→l.length<n→vab vjm n (u0,u1,(i:Int),u3,u4,u5,u6,u7) K=vge u0 u1 u3 u4 u5 u6 u7 l  i (Sum.elim (fun z=>K (.inl (u0,z.1,z.2,u3,u4,u5,u6,u7))) (fun z=>K (.inr (u0,u1,z,u3,u4,u5,u6,u7)))):=
 vao h0 (fun i n a=>by intros;simp only [vab,vjm,vge,a,decide_false,cond_false,Sum.elim_inr,Sum.elim_inl])
  (fun y l i n a f=>by intros;simp only [vab,vjm,vge,a,decide_true,cond_true,and_self,if_true,Sum.elim_inl,Sum.elim_inr,f])
theorem wq2 {u0 u1} {u3 u4} {u5 u6 u7}(h0:u5.length<9223372036854775807){K:(q72T⊕q72T)→OR}  : vab vjm Fuel (u0,u1,(0:Int),u3,u4,u5,u6,u7) K=vge u0 u1 u3 u4 u5 u6 u7 u5  0 (Sum.elim (fun z=>K (.inl (u0,z.1,z.2,u3,u4,u5,u6,u7))) (fun z=>K (.inr (u0,u1,z,u3,u4,u5,u6,u7)))):=
 wvb h0 u5 0 Fuel rfl (vak h0)
def wi1 (a0:va3)(a1:ByteArray)(k:Int→OR):OR:=
 vge a1 (0:Int) a0.1 a0.2.1 a0.2.2.1 a0.2.2.2.1 a0.2.2.2.2 a0.2.2.1  0 (Sum.elim (fun z30=>
  k z30.1) (fun _=>
  k (-1:Int)))
theorem w9f {a0:va3}{a1:ByteArray}(h0:a0.2.2.1.length<9223372036854775807){k:Int→OR}:vna a0 a1 k=wi1 a0 a1 k:=by
 rw [wh7]
 simp only [v9i,wi1,(wq2 h0),Sum.elim_inl,Sum.elim_inr]
def vfd (u0:ByteArray)(u2:VL)(u3 u4:TL)(u5 u6:Int)(u7 u8:Int)(u9 u10:Int)(u11:VL)(u12:TL):List dTxn→TL→Nat→((Int×TL)→OR)→OR
 |[],s13,i,k=>
  k ((i:Int),s13)
 |y::l,s13,i,k=>
  bif (!(vaj (y.2.2.2.2.2.2.2) u0))then
   vde y (fun y1=>
    let y1h:=y1.2.2.2.2
    if s13.length+[(y1.1,(y1.2.1,(y1.2.2.1,(y1.2.2.2.1,(y1h.2.2.1,(y1h.2.2.2,(y1h.1,y1h.2.1)))))))].length≤VE.maxLen then
     vfd u0 u2 u3 u4 u5 u6 u7 u8 u9 u10 u11 u12 l (s13++[(y1.1,(y1.2.1,(y1.2.2.1,(y1.2.2.2.1,(y1h.2.2.1,(y1h.2.2.2,(y1h.1,y1h.2.1)))))))]) (i+1) k
    else none)
  else
   vfd u0 u2 u3 u4 u5 u6 u7 u8 u9 u10 u11 u12 l s13 (i+1) k
theorem wv9 {u0 u2} {u3 u4} {u5 u6} {u7 u8} {u9 u10} {u11 u12}(h0:u4.length<9223372036854775807){K:q71T→OR}:∀(l:List dTxn) (i n:Nat),u4.drop i=l→l.length<n→∀(s13:TL),vab vix n (u0,(i:Int),u2,u3,u4,u5,u6,u7,u8,u9,u10,u11,u12,s13) K=vfd u0 u2 u3 u4 u5 u6 u7 u8 u9 u10 u11 u12 l s13 i (fun z=>K (u0,z.1,u2,u3,u4,u5,u6,u7,u8,u9,u10,u11,u12,z.2)):=
 vao h0 (fun i n a=>by intros;simp only [vab,vix,vfd,a,decide_false,cond_false,Sum.elim_inr,Sum.elim_inl])
  (fun y l i n a f=>by intros;simp only [vab,vix,vfd,a,decide_true,cond_true,and_self,if_true,Sum.elim_inl,Sum.elim_inr,f])
theorem wum {u0 u2} {u3 u4} {u5 u6} {u7 u8} {u9 u10} {u11 u12}(h0:u4.length<9223372036854775807){K:q71T→OR}{s13:TL}:vab vix Fuel (u0,(0:Int),u2,u3,u4,u5,u6,u7,u8,u9,u10,u11,u12,s13) K=vfd u0 u2 u3 u4 u5 u6 u7 u8 u9 u10 u11 u12 u4 s13 0 (fun z=>K (u0,z.1,u2,u3,u4,u5,u6,u7,u8,u9,u10,u11,u12,z.2)):=
 wv9 h0 u4 0 Fuel rfl (vak h0) s13
def wgp (a0:va3)(a1:ByteArray)(k:q86T→OR):OR:=
 vdj a0 (fun y30=>
  vfd a1 a0.1 a0.2.1 a0.2.2.1 a0.2.2.2.1 a0.2.2.2.2 (0:Int) (0:Int) y30.1 y30.2.1 y30.2.2.1 y30.2.2.2.1 a0.2.2.1 ([]:List dTxn) 0 (fun z31=>
   k (y30.1,y30.2.1,y30.2.2.1,y30.2.2.2.1,z31.2)))
theorem w8v {a0:va3}{a1:ByteArray}(h0:a0.2.2.1.length<9223372036854775807){k:q86T→OR}:vr9 a0 a1 k=wgp a0 a1 k:=by
 rw [wiq]
 simp only [wbg,wgp,(wum h0),Sum.elim_inl,Sum.elim_inr]
def vfm (u0:ByteArray)(u2:VL)(u3 u4:TL)(u5 u6:Int)(u7 u8:Int)(u9 u10:Int)(u11:RL)(u12:WL)(u13:Bool)(u14:ByteArray)(u15 u16:Int)(u17 u18:Int)(u19 u20:Int)(u21 u22:Int)(u23:Bool)(u24:ByteArray)(u25:VL)(u26:TL)(u28:RL)(u29:WL):List dTxn→TL→Nat→((Int×TL)→OR)→OR
 |[],s27,i,k=>
  k ((i:Int),s27)
 |y::l,s27,i,k=>
  bif (vai (y.2.2.2.2.2.2.2) u0)then
   vde y (fun y1=>
    let y1h:=y1.2.2.2.2
    if s27.length+[(y1.1,(y1.2.1,(y1.2.2.1,(y1.2.2.2.1,(y1h.2.2.1,(y1h.2.2.2,(y1h.1,y1h.2.1)))))))].length≤VE.maxLen then
     vfm u0 u2 u3 u4 u5 u6 u7 u8 u9 u10 u11 u12 u13 u14 u15 u16 u17 u18 u19 u20 u21 u22 u23 u24 u25 u26 u28 u29 l (s27++[(y1.1,(y1.2.1,(y1.2.2.1,(y1.2.2.2.1,(y1h.2.2.1,(y1h.2.2.2,(y1h.1,y1h.2.1)))))))]) (i+1) k
    else none)
  else
   vfm u0 u2 u3 u4 u5 u6 u7 u8 u9 u10 u11 u12 u13 u14 u15 u16 u17 u18 u19 u20 u21 u22 u23 u24 u25 u26 u28 u29 l s27 (i+1) k
theorem wsj {u0 u2} {u3 u4} {u5 u6} {u7 u8} {u9 u10} {u11 u12} {u13 u14} {u15 u16} {u17 u18} {u19 u20} {u21 u22} {u23 u24} {u25 u26} {u28 u29}(h0:u4.length<9223372036854775807){K:q70T→OR}:∀(l:List dTxn) (i n:Nat),u4.drop i=l→l.length<n→∀(s27:TL),vab vj9 n (u0,(i:Int),u2,u3,u4,u5,u6,u7,u8,u9,u10,u11,u12,u13,u14,u15,u16,u17,u18,u19,u20,u21,u22,u23,u24,u25,u26,s27,u28,u29) K=vfm u0 u2 u3 u4 u5 u6 u7 u8 u9 u10 u11 u12 u13 u14 u15 u16 u17 u18 u19 u20 u21 u22 u23 u24 u25 u26 u28 u29 l s27 i (fun z=>K (u0,z.1,u2,u3,u4,u5,u6,u7,u8,u9,u10,u11,u12,u13,u14,u15,u16,u17,u18,u19,u20,u21,u22,u23,u24,u25,u26,z.2,u28,u29)):=
 vao h0 (fun i n a=>by intros;simp only [vab,vj9,vfm,a,decide_false,cond_false,Sum.elim_inr,Sum.elim_inl])
  (fun y l i n a f=>by intros;simp only [vab,vj9,vfm,a,decide_true,cond_true,and_self,if_true,Sum.elim_inl,Sum.elim_inr,f])
theorem wto {u0 u2} {u3 u4} {u5 u6} {u7 u8} {u9 u10} {u11 u12} {u13 u14} {u15 u16} {u17 u18} {u19 u20} {u21 u22} {u23 u24} {u25 u26} {u28 u29}(h0:u4.length<9223372036854775807){K:q70T→OR}{s27:TL}:vab vj9 Fuel (u0,(0:Int),u2,u3,u4,u5,u6,u7,u8,u9,u10,u11,u12,u13,u14,u15,u16,u17,u18,u19,u20,u21,u22,u23,u24,u25,u26,s27,u28,u29) K=vfm u0 u2 u3 u4 u5 u6 u7 u8 u9 u10 u11 u12 u13 u14 u15 u16 u17 u18 u19 u20 u21 u22 u23 u24 u25 u26 u28 u29 u4 s27 0 (fun z=>K (u0,z.1,u2,u3,u4,u5,u6,u7,u8,u9,u10,u11,u12,u13,u14,u15,u16,u17,u18,u19,u20,u21,u22,u23,u24,u25,u26,z.2,u28,u29)):=
 wsj h0 u4 0 Fuel rfl (vak h0) s27
def vf1 (u0:ByteArray)(u2:VL)(u3 u4:TL)(u5 u6:Int)(u7 u8:Int)(u9 u10:Int)(u11:RL)(u12:WL)(u13:Bool)(u14:ByteArray)(u15 u16:Int)(u17 u18:Int)(u19:VL)(u20:TL):List dTxn→TL→Nat→((Int×TL)→OR)→OR
 |[],s21,i,k=>
  k ((i:Int),s21)
 |y::l,s21,i,k=>
  bif (!(vai (y.2.2.2.2.2.2.2) u0))then
   vde y (fun y1=>
    let y1h:=y1.2.2.2.2
    if s21.length+[(y1.1,(y1.2.1,(y1.2.2.1,(y1.2.2.2.1,(y1h.2.2.1,(y1h.2.2.2,(y1h.1,y1h.2.1)))))))].length≤VE.maxLen then
     vf1 u0 u2 u3 u4 u5 u6 u7 u8 u9 u10 u11 u12 u13 u14 u15 u16 u17 u18 u19 u20 l (s21++[(y1.1,(y1.2.1,(y1.2.2.1,(y1.2.2.2.1,(y1h.2.2.1,(y1h.2.2.2,(y1h.1,y1h.2.1)))))))]) (i+1) k
    else none)
  else
   vf1 u0 u2 u3 u4 u5 u6 u7 u8 u9 u10 u11 u12 u13 u14 u15 u16 u17 u18 u19 u20 l s21 (i+1) k
theorem wsq {u0 u2} {u3 u4} {u5 u6} {u7 u8} {u9 u10} {u11 u12} {u13 u14} {u15 u16} {u17 u18} {u19 u20}(h0:u4.length<9223372036854775807){K:q69T→OR}:∀(l:List dTxn) (i n:Nat),u4.drop i=l→l.length<n→∀(s21:TL),vab viz n (u0,(i:Int),u2,u3,u4,u5,u6,u7,u8,u9,u10,u11,u12,u13,u14,u15,u16,u17,u18,u19,u20,s21) K=vf1 u0 u2 u3 u4 u5 u6 u7 u8 u9 u10 u11 u12 u13 u14 u15 u16 u17 u18 u19 u20 l s21 i (fun z=>K (u0,z.1,u2,u3,u4,u5,u6,u7,u8,u9,u10,u11,u12,u13,u14,u15,u16,u17,u18,u19,u20,z.2)):=
 vao h0 (fun i n a=>by intros;simp only [vab,viz,vf1,a,decide_false,cond_false,Sum.elim_inr,Sum.elim_inl])
  (fun y l i n a f=>by intros;simp only [vab,viz,vf1,a,decide_true,cond_true,and_self,if_true,Sum.elim_inl,Sum.elim_inr,f])
theorem wqg {u0 u2} {u3 u4} {u5 u6} {u7 u8} {u9 u10} {u11 u12} {u13 u14} {u15 u16} {u17 u18} {u19 u20}(h0:u4.length<9223372036854775807){K:q69T→OR}{s21:TL}:vab viz Fuel (u0,(0:Int),u2,u3,u4,u5,u6,u7,u8,u9,u10,u11,u12,u13,u14,u15,u16,u17,u18,u19,u20,s21) K=vf1 u0 u2 u3 u4 u5 u6 u7 u8 u9 u10 u11 u12 u13 u14 u15 u16 u17 u18 u19 u20 u4 s21 0 (fun z=>K (u0,z.1,u2,u3,u4,u5,u6,u7,u8,u9,u10,u11,u12,u13,u14,u15,u16,u17,u18,u19,u20,z.2)):=
 wsq h0 u4 0 Fuel rfl (vak h0) s21
def vdc (u0:ByteArray)(u1:VL)(u2 u3:TL)(u4 u5:Int)(u6 u7:Int)(u8 u9:Int)(u10:RL)(u11:WL)(u12:Bool)(u13:ByteArray)(u14 u15:Int)(u16 u17:Int)(u18 u19:Int)(u20 u21:Int)(u22:Bool)(u23:ByteArray)(u24:VL)(u25 u26:TL)(u27:RL)(u28:WL)(k:(Int×Int×TL)→OR):OR:=
  vfm u0 u1 u2 u3 u4 u5 u6 u7 u8 u9 u10 u11 u12 u13 u14 u15 u16 u17 u18 u19 u20 u21 u22 u23 u24 u25 u27 u28 u3 ([]:List dTxn) 0 (fun z1=>
   if z1.2.length+[(u18,(u19,(u20,(u21,(u27,(u28,(u22,u23)))))))].length≤VE.maxLen then
    vf1 u0 u1 u2 u3 u4 u5 u6 u7 u8 u9 u10 u11 u12 u13 u14 u15 u16 u17 u24 u25 u3 (z1.2++[(u18,(u19,(u20,(u21,(u27,(u28,(u22,u23)))))))]) 0 (fun z2=>
     bif (decide (u6≥u17))then
      k ((IntKind.wrap .i64 (u6+(1:Int))),(IntKind.wrap .i64 (u6+(1:Int))),z2.2)
     else
      k (u17,u17,z2.2))
   else none)
theorem v0e {u0 u1} {u2 u3} {u4 u5} {u6 u7} {u8 u9} {u10 u11} {u12 u13} {u14 u15} {u16 u17} {u18 u19} {u20 u21} {u22 u23} {u24 u25} {u26 u27 u28}(h0:u3.length<9223372036854775807){K:q66T→OR}:vc6 (u0,u1,u2,u3,u4,u5,u6,u7,u8,u9,u10,u11,u12,u13,u14,u15,u16,u17,u18,u19,u20,u21,u22,u23,u24,u25,u26,u27,u28) K=vdc u0 u1 u2 u3 u4 u5 u6 u7 u8 u9 u10 u11 u12 u13 u14 u15 u16 u17 u18 u19 u20 u21 u22 u23 u24 u25 u26 u27 u28 (fun z=>K (u0,u1,u2,u3,u4,u5,u6,u7,u8,u9,u10,u11,u12,u13,u16,z.1,u16,z.2.1,u24,u25,z.2.2)):=by
 simp only [vc6,vdc,(wqg h0),(wto h0),Sum.elim_inl,Sum.elim_inr]
def whp (a0:va3)(a1:dTxn)(a2:ByteArray)(k:q86T→OR):OR:=
 vdj a0 (fun y30=>
  vde a1 (fun y31=>
   bif a1.2.2.2.2.2.2.1 then
    vdc a2 a0.1 a0.2.1 a0.2.2.1 a0.2.2.2.1 a0.2.2.2.2 a1.1 a1.2.1 a1.2.2.1 a1.2.2.2.1 a1.2.2.2.2.1 a1.2.2.2.2.2.1 a1.2.2.2.2.2.2.1 a1.2.2.2.2.2.2.2 (0:Int) (0:Int) y30.1 y30.2.1 y31.1 (2:Int) y31.2.2.1 y31.2.2.2.1 true a2 y30.2.2.1 y30.2.2.2.1 y30.2.2.2.2 y31.2.2.2.2.2.2.1 y31.2.2.2.2.2.2.2 (fun z32=>
     k (y30.1,z32.1,y30.2.2.1,y30.2.2.2.1,z32.2.2))
   else
    vmi a1 a0.2.1 (fun y33=>
     vdc a2 a0.1 a0.2.1 a0.2.2.1 a0.2.2.2.1 a0.2.2.2.2 a1.1 a1.2.1 a1.2.2.1 a1.2.2.2.1 a1.2.2.2.2.1 a1.2.2.2.2.2.1 a1.2.2.2.2.2.2.1 a1.2.2.2.2.2.2.2 (0:Int) (0:Int) y30.1 y30.2.1 y31.1 (2:Int) y31.2.2.1 y31.2.2.2.1 y33 a2 y30.2.2.1 y30.2.2.2.1 y30.2.2.2.2 y31.2.2.2.2.2.2.1 y31.2.2.2.2.2.2.2 (fun z34=>
      k (y30.1,z34.1,y30.2.2.1,y30.2.2.2.1,z34.2.2)))))
theorem w7d {a0:va3}{a1:dTxn}{a2:ByteArray}(h0:a0.2.2.1.length<9223372036854775807){k:q86T→OR}:vtg a0 a1 a2 k=whp a0 a1 a2 k:=by
 rw [wja]
 simp only [waq,whp,(v0e h0),Sum.elim_inl,Sum.elim_inr]
def vg7 (u0:TL):List dTxn→Int→Nat→((Int×Int)→OR)→OR
 |[],s1,i,k=>
  k (s1,(i:Int))
 |y::l,s1,i,k=>
  bif (decide (y.2.2.1<s1))then
   vg7 u0 l y.2.2.1 (i+1) k
  else
   vg7 u0 l s1 (i+1) k
theorem wtn {u0}(h0:u0.length<9223372036854775807){K:(TL×Int×Int)→OR}:∀(l:List dTxn) (i n:Nat),u0.drop i=l→l.length<n→∀(s1:Int),vab vjb n (u0,s1,(i:Int)) K=vg7 u0 l s1 i (fun z=>K (u0,z.1,z.2)):=
 vao h0 (fun i n a=>by intros;simp only [vab,vjb,vg7,a,decide_false,cond_false,Sum.elim_inr,Sum.elim_inl])
  (fun y l i n a f=>by intros;simp only [vab,vjb,vg7,a,decide_true,cond_true,and_self,if_true,Sum.elim_inl,Sum.elim_inr,f])
theorem wsk {u0}(h0:u0.length<9223372036854775807){K:(TL×Int×Int)→OR}{s1:Int}:vab vjb Fuel (u0,s1,(0:Int)) K=vg7 u0 u0 s1 0 (fun z=>K (u0,z.1,z.2)):=
 wtn h0 u0 0 Fuel rfl (vak h0) s1
def wgi (a0:va3)(a1:TL)(k:Int→OR):OR:=
 vg7 a1 a1 a0.2.2.2.1 0 (fun z30=>
  k z30.1)
theorem w72 {a0:va3}{a1:TL}(h0:a1.length<9223372036854775807){k:Int→OR}:vr7 a0 a1 k=wgi a0 a1 k:=by
 rw [wfv]
 simp only [wbm,wgi,(wsk h0),Sum.elim_inl,Sum.elim_inr]
def vev (u0:VL)(u1:ByteArray)(u2:Int):List vah→Int→Nat→((Int×Int)→OR)→OR
 |[],s3,i,k=>
  k (s3,(i:Int))
 |y::l,s3,i,k=>
  bif (vaj (y.1) u1)then
   bif (decide (y.2.2.2≤u2))then
    bif (decide (s3<(0:Int)))then
     vev u0 u1 u2 l (i:Int) (i+1) k
    else
     if 0≤s3∧s3<(u0.length:Int)then
      bif (decide (y.2.2.2>(rd (Ty.zero tVersion) u0 s3).2.2.2))then
       vev u0 u1 u2 l (i:Int) (i+1) k
      else
       vev u0 u1 u2 l s3 (i+1) k
     else none
   else
    vev u0 u1 u2 l s3 (i+1) k
  else
   vev u0 u1 u2 l s3 (i+1) k
theorem wue {u0 u1 u2}(h0:u0.length<9223372036854775807){K:q27T→OR}:∀(l:List vah) (i n:Nat),u0.drop i=l→l.length<n→∀(s3:Int),vab vj8 n (u0,u1,u2,s3,(i:Int)) K=vev u0 u1 u2 l s3 i (fun z=>K (u0,u1,u2,z.1,z.2)):=
 vao h0 (fun i n a=>by intros;simp only [vab,vj8,vev,a,decide_false,cond_false,Sum.elim_inr,Sum.elim_inl])
  (fun y l i n a f=>by intros;simp only [vab,vj8,vev,a,decide_true,cond_true,and_self,if_true,Sum.elim_inl,Sum.elim_inr,f])
theorem wq8 {u0 u1 u2}(h0:u0.length<9223372036854775807){K:q27T→OR}{s3:Int}:vab vj8 Fuel (u0,u1,u2,s3,(0:Int)) K=vev u0 u1 u2 u0 s3 0 (fun z=>K (u0,u1,u2,z.1,z.2)):=
 wue h0 u0 0 Fuel rfl (vak h0) s3
def wgl (a0:VL)(a1:ByteArray)(a2:Int)(k:Int→OR):OR:=
 vev a0 a1 a2 a0 (-1:Int) 0 (fun z30=>
  k z30.1)
theorem w61 {a0:VL}{a1:ByteArray}{a2:Int}(h0:a0.length<9223372036854775807){k:Int→OR}:vru a0 a1 a2 k=wgl a0 a1 a2 k:=by
 rw [we3]
 simp only [wb4,wgl,(wq8 h0),Sum.elim_inl,Sum.elim_inr]
def vdq (u0:VL)(u1 u2:Int)(u3:Bool)(u4:VL)(k:VL→OR):OR:=
  bif u3 then
   if 0≤u2∧u2<(u0.length:Int)then
    if u4.length+[(rd (Ty.zero tVersion) u0 u2)].length≤VE.maxLen then
     k (u4++[(rd (Ty.zero tVersion) u0 u2)])
    else none
   else none
  else
   k u4
theorem vnt {u0 u1} {u2 u3 u4}  {K:q32T→OR}:vcl (u0,u1,u2,u3,u4) K=vdq u0 u1 u2 u3 u4 (fun z=>K (u0,u1,u2,u3,z)):=by
 simp only [vcl,vdq,Sum.elim_inl,Sum.elim_inr]
def vgi (u0:VL)(u1:Int):List vah→VL→Nat→((Int×VL)→OR)→OR
 |[],s3,i,k=>
  k ((i:Int),s3)
 |y::l,s3,i,k=>
  vru u0 y.1 u1 (fun y1=>
   bif (decide (y.2.2.2>u1))then
    vdq u0 u1 (i:Int) true s3 (fun z2=>
     vgi u0 u1 l z2 (i+1) k)
   else
    vdq u0 u1 (i:Int) (y1==(i:Int)) s3 (fun z3=>
     vgi u0 u1 l z3 (i+1) k))
theorem wrl {u0 u1}(h0:u0.length<9223372036854775807){K:q31T→OR}:∀(l:List vah) (i n:Nat),u0.drop i=l→l.length<n→∀(s3:VL),vab vje n (u0,u1,(i:Int),s3) K=vgi u0 u1 l s3 i (fun z=>K (u0,u1,z.1,z.2)):=
 vao h0 (fun i n a=>by intros;simp only [vab,vje,vgi,a,decide_false,cond_false,Sum.elim_inr,Sum.elim_inl,vnt])
  (fun y l i n a f=>by intros;simp only [vab,vje,vgi,a,decide_true,cond_true,and_self,if_true,Sum.elim_inl,Sum.elim_inr,f,vnt])
theorem wra {u0 u1}(h0:u0.length<9223372036854775807){K:q31T→OR}{s3:VL}:vab vje Fuel (u0,u1,(0:Int),s3) K=vgi u0 u1 u0 s3 0 (fun z=>K (u0,u1,z.1,z.2)):=
 wrl h0 u0 0 Fuel rfl (vak h0) s3
def vcu (u0 u1:Int)(u2:Bool)(u3 u4:VL)(k:VL→OR):OR:=
  bif u2 then
   if 0≤u1∧u1<(u3.length:Int)then
    if u4.length+[(u3.getD u1.toNat (Ty.zero tVersion))].length≤VE.maxLen then
     k (u4++[(u3.getD u1.toNat (Ty.zero tVersion))])
    else none
   else none
  else
   k u4
theorem vno {u0 u1} {u2 u3 u4}  {K:q89T→OR}:vb7 (u0,u1,u2,u3,u4) K=vcu u0 u1 u2 u3 u4 (fun z=>K (u0,u1,u2,u3,z)):=by
 simp only [vb7,vcu,Sum.elim_inl,Sum.elim_inr]
def vg6 (u0 u1:Int)(u4 u5:VL):List vah→Int→Nat→((Int×Int)→OR)→OR
 |[],s2,i,k=>
  k (s2,(i:Int))
 |y::l,s2,i,k=>
  if 0≤u1∧u1<(u4.length:Int)then
   bif (vaj (y.1) ((u4.getD u1.toNat (Ty.zero tVersion)).1))then
    vg6 u0 u1 u4 u5 l (IntKind.wrap .i64 (s2+(1:Int))) (i+1) k
   else
    vg6 u0 u1 u4 u5 l s2 (i+1) k
  else none
theorem wt3 {u0 u1} {u4 u5}(h0:u4.length<9223372036854775807){K:q91T→OR}:∀(l:List vah) (i n:Nat),u4.drop i=l→l.length<n→∀(s2:Int),vab vju n (u0,u1,s2,(i:Int),u4,u5) K=vg6 u0 u1 u4 u5 l s2 i (fun z=>K (u0,u1,z.1,z.2,u4,u5)):=
 vao h0 (fun i n a=>by intros;simp only [vab,vju,vg6,a,decide_false,cond_false,Sum.elim_inr,Sum.elim_inl])
  (fun y l i n a f=>by intros;simp only [vab,vju,vg6,a,decide_true,cond_true,and_self,if_true,Sum.elim_inl,Sum.elim_inr,f])
theorem wcy {u0 u1} {u4 u5}(h0:u4.length<9223372036854775807){K:q91T→OR}{s2:Int}:vab vju Fuel (u0,u1,s2,(0:Int),u4,u5) K=vg6 u0 u1 u4 u5 u4 s2 0 (fun z=>K (u0,u1,z.1,z.2,u4,u5)):=
 wt3 h0 u4 0 Fuel rfl (vak h0) s2
def vgg (u0:Int)(u2:VL):List vah→VL→Nat→((Int×VL)→OR)→OR
 |[],s3,i,k=>
  k ((i:Int),s3)
 |y::l,s3,i,k=>
  vg6 u0 (i:Int) u2 s3 u2 (0:Int) 0 (fun z1=>
   bif (!y.2.2.1)then
    vcu u0 (i:Int) true u2 s3 (fun z2=>
     vgg u0 u2 l z2 (i+1) k)
   else
    bif (decide (y.2.2.2>u0))then
     vcu u0 (i:Int) true u2 s3 (fun z3=>
      vgg u0 u2 l z3 (i+1) k)
    else
     vcu u0 (i:Int) (decide (z1.1>(1:Int))) u2 s3 (fun z4=>
      vgg u0 u2 l z4 (i+1) k))
theorem wxc {u0 u2}(h0:u2.length<9223372036854775807){K:q87T→OR}:∀(l:List vah) (i n:Nat),u2.drop i=l→l.length<n→∀(s3:VL),vab vhh n (u0,(i:Int),u2,s3) K=vgg u0 u2 l s3 i (fun z=>K (u0,z.1,u2,z.2)):=
 vao h0 (fun i n a=>by intros;simp only [vab,vhh,vgg,a,decide_false,cond_false,Sum.elim_inr,Sum.elim_inl,vno,(wcy h0)])
  (fun y l i n a f=>by intros;simp only [vab,vhh,vgg,a,decide_true,cond_true,and_self,if_true,Sum.elim_inl,Sum.elim_inr,f,vno,(wcy h0)])
theorem wyz {u0 u2}(h0:u2.length<9223372036854775807){K:q87T→OR}{s3:VL}:vab vhh Fuel (u0,(0:Int),u2,s3) K=vgg u0 u2 u2 s3 0 (fun z=>K (u0,z.1,u2,z.2)):=
 wxc h0 u2 0 Fuel rfl (vak h0) s3
def wgo (a0:VL)(a1:Int)(k:VL→OR):OR:=
 vgi a0 a1 a0 ([]:List vah) 0 (fun z30=>
  vab vhh Fuel (a1,(0:Int),z30.2,([]:List vah)) (fun z31=>
   k z31.2.2.2))
theorem w9j {a0:VL}{a1:Int}(h0:a0.length<9223372036854775807){k:VL→OR}:vsm a0 a1 k=wgo a0 a1 k:=by
 rw [wfk]
 simp only [wbb,wgo,(wra h0),Sum.elim_inl,Sum.elim_inr]
def ve8 (u0:Int)(u2:VL)(u3 u4:TL)(u5 u6:Int)(u7 u8:Int)(u9 u10:Int)(u11:VL)(u13:TL):List dTxn→TL→Nat→((Int×TL)→OR)→OR
 |[],s12,i,k=>
  k ((i:Int),s12)
 |y::l,s12,i,k=>
  bif (decide (y.2.2.2.1>u0))then
   vde y (fun y1=>
    let y1h:=y1.2.2.2.2
    if s12.length+[(y1.1,(y1.2.1,(y1.2.2.1,(y1.2.2.2.1,(y1h.2.2.1,(y1h.2.2.2,(y1h.1,y1h.2.1)))))))].length≤VE.maxLen then
     ve8 u0 u2 u3 u4 u5 u6 u7 u8 u9 u10 u11 u13 l (s12++[(y1.1,(y1.2.1,(y1.2.2.1,(y1.2.2.2.1,(y1h.2.2.1,(y1h.2.2.2,(y1h.1,y1h.2.1)))))))]) (i+1) k
    else none)
  else
   ve8 u0 u2 u3 u4 u5 u6 u7 u8 u9 u10 u11 u13 l s12 (i+1) k
theorem wrh {u0 u2} {u3 u4} {u5 u6} {u7 u8} {u9 u10} {u11 u13}(h0:u3.length<9223372036854775807){K:q85T→OR}:∀(l:List dTxn) (i n:Nat),u3.drop i=l→l.length<n→∀(s12:TL),vab vjj n (u0,(i:Int),u2,u3,u4,u5,u6,u7,u8,u9,u10,u11,s12,u13) K=ve8 u0 u2 u3 u4 u5 u6 u7 u8 u9 u10 u11 u13 l s12 i (fun z=>K (u0,z.1,u2,u3,u4,u5,u6,u7,u8,u9,u10,u11,z.2,u13)):=
 vao h0 (fun i n a=>by intros;simp only [vab,vjj,ve8,a,decide_false,cond_false,Sum.elim_inr,Sum.elim_inl])
  (fun y l i n a f=>by intros;simp only [vab,vjj,ve8,a,decide_true,cond_true,and_self,if_true,Sum.elim_inl,Sum.elim_inr,f])
theorem wyc {u0 u2} {u3 u4} {u5 u6} {u7 u8} {u9 u10} {u11 u13}(h0:u3.length<9223372036854775807){K:q85T→OR}{s12:TL}:vab vjj Fuel (u0,(0:Int),u2,u3,u4,u5,u6,u7,u8,u9,u10,u11,s12,u13) K=ve8 u0 u2 u3 u4 u5 u6 u7 u8 u9 u10 u11 u13 u3 s12 0 (fun z=>K (u0,z.1,u2,u3,u4,u5,u6,u7,u8,u9,u10,u11,z.2,u13)):=
 wrh h0 u3 0 Fuel rfl (vak h0) s12
def wff (a0:va3)(a1:TL)(k:q86T→OR):OR:=
 vdj a0 (fun y30=>
  vr7 a0 a1 (fun y31=>
   ve8 y31 a0.1 a0.2.1 a0.2.2.1 a0.2.2.2.1 a0.2.2.2.2 (0:Int) (0:Int) y30.1 y30.2.1 y30.2.2.1 y30.2.2.2.2 a0.2.1 ([]:List dTxn) 0 (fun z32=>
    vsm a0.1 y31 (fun y33=>
     k (y30.1,y30.2.1,y33,z32.2,y30.2.2.2.2)))))
theorem w74 {a0:va3}{a1:TL}(h0:a0.2.1.length<9223372036854775807){k:q86T→OR}:vta a0 a1 k=wff a0 a1 k:=by
 rw [we5]
 simp only [v9t,wff,(wyc h0),Sum.elim_inl,Sum.elim_inr]
def vok (u0:ByteArray)(u1:Bool):List Int→Nat→(((Bool×Int)⊕Int)→OR)→OR
 |[],i,k=>
  k (.inr (i:Int))
 |y::l,i,k=>
  bif (decide (y<(97:Int)))then
   k (.inl (false,(i:Int)))
  else
   bif (decide (y>(122:Int)))then
    k (.inl (false,(i:Int)))
   else
    vok u0 u1 l (i+1) k
theorem w3i {u0 u1}(h0:u0.size<9223372036854775807){K:((ByteArray×Bool×Int)⊕(ByteArray×Bool×Int))→OR}:∀(l:List Int) (i n:Nat),(vck u0).drop i=l→l.length<n→vab vp5 n (u0,u1,(i:Int)) K=vok u0 u1 l  i (Sum.elim (fun z=>K (.inl (u0,z.1,z.2))) (fun z=>K (.inr (u0,u1,z)))):=
 wg6 h0 (fun i n a=>by intros;simp only [vab,vp5,vok,a,decide_false,cond_false,Sum.elim_inr,Sum.elim_inl])
  (fun y l i n a f=>by intros;simp only [vab,vp5,vok,a,decide_true,cond_true,and_self,if_true,Sum.elim_inl,Sum.elim_inr,f])
theorem w1l {u0 u1}(h0:u0.size<9223372036854775807){K:((ByteArray×Bool×Int)⊕(ByteArray×Bool×Int))→OR}  : vab vp5 Fuel (u0,u1,(0:Int)) K=vok u0 u1 (vck u0)  0 (Sum.elim (fun z=>K (.inl (u0,z.1,z.2))) (fun z=>K (.inr (u0,u1,z)))):=
 w3i h0 (vck u0) 0 Fuel rfl (wkv h0)
def wv3 (a0:ByteArray)(k:Bool→OR):OR:=
 vok a0 false (vck a0)  0 (Sum.elim (fun z30=>
  k z30.1) (fun _=>
  vej (a0.size:Int) (1:Int) (3:Int) (fun y32=>
   k y32)))
theorem xaf {a0:ByteArray}(h0:a0.size<9223372036854775807){k:Bool→OR}:vkb a0 k=wv3 a0 k:=by
 rw [wvo]
 simp only [wme,wv3,(w1l h0),Sum.elim_inl,Sum.elim_inr]
def via (u0:VL)(u1:Bool)(u2:VL):List vah→Nat→(((Bool×Int)⊕Int)→OR)→OR
 |[],i,k=>
  k (.inr (i:Int))
 |y::l,i,k=>
  vkb y.1 (fun y1=>
   bif (!y1)then
    k (.inl (false,(i:Int)))
   else
    bif (decide ((y.2.1.size:Int)>(12:Int)))then
     k (.inl (false,(i:Int)))
    else
     bif y.2.2.1 then
      bif (!(vaj (y.2.1) (⟨#[]⟩:ByteArray)))then
       k (.inl (false,(i:Int)))
      else
       vej y.2.2.2 (1:Int) (9999:Int) (fun y2=>
        bif (!y2)then
         k (.inl (false,(i:Int)))
        else
         bif (decide ((i:Int)>(0:Int)))then
          if 0≤(IntKind.wrap .i64 ((i:Int)-(1:Int)))∧(IntKind.wrap .i64 ((i:Int)-(1:Int)))<(u0.length:Int)then
           vvl (rd (Ty.zero tVersion) u0 (IntKind.wrap .i64 ((i:Int)-(1:Int)))) y (fun y3=>
            bif (decide (y3≥(0:Int)))then
             k (.inl (false,(i:Int)))
            else
             via u0 u1 u2 l (i+1) k)
          else none
         else
          via u0 u1 u2 l (i+1) k)
     else
      vej y.2.2.2 (1:Int) (9999:Int) (fun y4=>
       bif (!y4)then
        k (.inl (false,(i:Int)))
       else
        bif (decide ((i:Int)>(0:Int)))then
         if 0≤(IntKind.wrap .i64 ((i:Int)-(1:Int)))∧(IntKind.wrap .i64 ((i:Int)-(1:Int)))<(u0.length:Int)then
          vvl (rd (Ty.zero tVersion) u0 (IntKind.wrap .i64 ((i:Int)-(1:Int)))) y (fun y5=>
           bif (decide (y5≥(0:Int)))then
            k (.inl (false,(i:Int)))
           else
            via u0 u1 u2 l (i+1) k)
         else none
        else
         via u0 u1 u2 l (i+1) k))
theorem w28 {u0 u1 u2}(h0:u2.length<9223372036854775807){K:(q24T⊕q24T)→OR}:∀(l:List vah) (i n:Nat),u2.drop i=l→l.length<n→vab vn9 n (u0,u1,u2,(u2.length:Int),(i:Int)) K=via u0 u1 u2 l  i (Sum.elim (fun z=>K (.inl (u0,z.1,u2,(u2.length:Int),z.2))) (fun z=>K (.inr (u0,u1,u2,(u2.length:Int),z)))):=
 vao h0 (fun i n a=>by intros;simp only [vab,vn9,via,a,decide_false,cond_false,Sum.elim_inr,Sum.elim_inl])
  (fun y l i n a f=>by intros;simp only [vab,vn9,via,a,decide_true,cond_true,and_self,if_true,Sum.elim_inl,Sum.elim_inr,f])
theorem w00 {u0 u1 u2}(h0:u2.length<9223372036854775807){K:(q24T⊕q24T)→OR}  : vab vn9 Fuel (u0,u1,u2,(u2.length:Int),(0:Int)) K=via u0 u1 u2 u2  0 (Sum.elim (fun z=>K (.inl (u0,z.1,u2,(u2.length:Int),z.2))) (fun z=>K (.inr (u0,u1,u2,(u2.length:Int),z)))):=
 w28 h0 u2 0 Fuel rfl (vak h0)
def wtr (a0:VL)(k:Bool→OR):OR:=
 via a0 false a0 a0  0 (Sum.elim (fun z30=>
  k z30.1) (fun _=>
  k (decide ((a0.length:Int)≤(120:Int)))))
theorem xb2 {a0:VL}(h0:a0.length<9223372036854775807){k:Bool→OR}:v0h a0 k=wtr a0 k:=by
 rw [wvm]
 simp only [wlu,wtr,(w00 h0),Sum.elim_inl,Sum.elim_inr]
def vm8 (u0:WL)(u1:Bool)(u2:WL):List vb9→Nat→(((Bool×Int)⊕Int)→OR)→OR
 |[],i,k=>
  k (.inr (i:Int))
 |y::l,i,k=>
  v6s y (fun y1=>
   bif (!y1)then
    k (.inl (false,(i:Int)))
   else
    bif (decide ((i:Int)>(0:Int)))then
     if 0≤(IntKind.wrap .i64 ((i:Int)-(1:Int)))∧(IntKind.wrap .i64 ((i:Int)-(1:Int)))<(u0.length:Int)then
      bif (!(vai ((rd (Ty.zero tWrite) u0 (IntKind.wrap .i64 ((i:Int)-(1:Int)))).1) (y.1)))then
       k (.inl (false,(i:Int)))
      else
       vm8 u0 u1 u2 l (i+1) k
     else none
    else
     vm8 u0 u1 u2 l (i+1) k)
theorem wzh {u0 u1 u2}(h0:u2.length<9223372036854775807){K:(q38T⊕q38T)→OR}:∀(l:List vb9) (i n:Nat),u2.drop i=l→l.length<n→vab vox n (u0,u1,u2,(u2.length:Int),(i:Int)) K=vm8 u0 u1 u2 l  i (Sum.elim (fun z=>K (.inl (u0,z.1,u2,(u2.length:Int),z.2))) (fun z=>K (.inr (u0,u1,u2,(u2.length:Int),z)))):=
 vao h0 (fun i n a=>by intros;simp only [vab,vox,vm8,a,decide_false,cond_false,Sum.elim_inr,Sum.elim_inl])
  (fun y l i n a f=>by intros;simp only [vab,vox,vm8,a,decide_true,cond_true,and_self,if_true,Sum.elim_inl,Sum.elim_inr,f])
theorem w3e {u0 u1 u2}(h0:u2.length<9223372036854775807){K:(q38T⊕q38T)→OR}  : vab vox Fuel (u0,u1,u2,(u2.length:Int),(0:Int)) K=vm8 u0 u1 u2 u2  0 (Sum.elim (fun z=>K (.inl (u0,z.1,u2,(u2.length:Int),z.2))) (fun z=>K (.inr (u0,u1,u2,(u2.length:Int),z)))):=
 wzh h0 u2 0 Fuel rfl (vak h0)
def wqk (a0:WL)(k:Bool→OR):OR:=
 vm8 a0 false a0 a0  0 (Sum.elim (fun z30=>
  k z30.1) (fun _=>
  k (decide ((a0.length:Int)≤(8:Int)))))
theorem w96 {a0:WL}(h0:a0.length<9223372036854775807){k:Bool→OR}:v3s a0 k=wqk a0 k:=by
 rw [wyq]
 simp only [wke,wqk,(w3e h0),Sum.elim_inl,Sum.elim_inr]
def vc3 (u0:Bool)(u1 u2:Int)(u3 u4:Int)(u5:RL)(u6:WL)(u7:Bool)(u8:ByteArray)(k:Bool→OR):OR:=
  bif (u2==(2:Int))then
   vkb u8 (fun y1=>
    bif y1 then
     k true
    else
     bif (u2 != (2:Int))then
      k (vaj u8 (⟨#[]⟩:ByteArray))
     else
      k false)
  else
   bif (u2 != (2:Int))then
    k (vaj u8 (⟨#[]⟩:ByteArray))
   else
    k false
theorem v41 {u0 u1} {u2 u3} {u4 u5} {u6 u7 u8}  {K:q62T→OR}:vcf (u0,u1,u2,u3,u4,u5,u6,u7,u8) K=vc3 u0 u1 u2 u3 u4 u5 u6 u7 u8 (fun z=>K (z,u1,u2,u3,u4,u5,u6,u7,u8)):=by
 simp only [vcf,vc3,Sum.elim_inl,Sum.elim_inr]
def ver (u0:Bool)(u1 u2:Int)(u3 u4:Int)(u5:RL)(u6:WL)(u7:Bool)(u8:ByteArray)(k:Bool→OR):OR:=
  bif (u2==(3:Int))then
   vej u4 (IntKind.wrap .i64 (u3+(1:Int))) (9999:Int) (fun y1=>
    bif (!y1)then
     k false
    else
     bif (u2 != (3:Int))then
      bif (u4 != (0:Int))then
       k false
      else
       vc3 u0 u1 u2 u3 u4 u5 u6 u7 u8 (fun z2=>
        k z2)
     else
      vc3 u0 u1 u2 u3 u4 u5 u6 u7 u8 (fun z3=>
       k z3))
  else
   bif (u2 != (3:Int))then
    bif (u4 != (0:Int))then
     k false
    else
     vc3 u0 u1 u2 u3 u4 u5 u6 u7 u8 (fun z4=>
      k z4)
   else
    vc3 u0 u1 u2 u3 u4 u5 u6 u7 u8 (fun z5=>
     k z5)
theorem v5g {u0 u1} {u2 u3} {u4 u5} {u6 u7 u8}  {K:q62T→OR}:vdl (u0,u1,u2,u3,u4,u5,u6,u7,u8) K=ver u0 u1 u2 u3 u4 u5 u6 u7 u8 (fun z=>K (z,u1,u2,u3,u4,u5,u6,u7,u8)):=by
 simp only [vdl,ver,v41,Sum.elim_inl,Sum.elim_inr]
def vor (u0:Bool)(u1:RL)(u4 u5:Int)(u6 u7:Int)(u8:RL)(u9:WL)(u10:Bool)(u11:ByteArray):List vbz→Nat→(((Bool×Int)⊕Int)→OR)→OR
 |[],i,k=>
  k (.inr (i:Int))
 |y::l,i,k=>
  v77 y (fun y1=>
   bif (!y1)then
    k (.inl (false,(i:Int)))
   else
    vor u0 u1 u4 u5 u6 u7 u8 u9 u10 u11 l (i+1) k)
theorem wzp {u0 u1} {u4 u5} {u6 u7} {u8 u9} {u10 u11}(h0:u1.length<9223372036854775807){K:(q43T⊕q43T)→OR}:∀(l:List vbz) (i n:Nat),u1.drop i=l→l.length<n→vab vof n (u0,u1,(u1.length:Int),(i:Int),u4,u5,u6,u7,u8,u9,u10,u11) K=vor u0 u1 u4 u5 u6 u7 u8 u9 u10 u11 l  i (Sum.elim (fun z=>K (.inl (z.1,u1,(u1.length:Int),z.2,u4,u5,u6,u7,u8,u9,u10,u11))) (fun z=>K (.inr (u0,u1,(u1.length:Int),z,u4,u5,u6,u7,u8,u9,u10,u11)))):=
 vao h0 (fun i n a=>by intros;simp only [vab,vof,vor,a,decide_false,cond_false,Sum.elim_inr,Sum.elim_inl])
  (fun y l i n a f=>by intros;simp only [vab,vof,vor,a,decide_true,cond_true,and_self,if_true,Sum.elim_inl,Sum.elim_inr,f])
theorem wzb {u0 u1} {u4 u5} {u6 u7} {u8 u9} {u10 u11}(h0:u1.length<9223372036854775807){K:(q43T⊕q43T)→OR}  : vab vof Fuel (u0,u1,(u1.length:Int),(0:Int),u4,u5,u6,u7,u8,u9,u10,u11) K=vor u0 u1 u4 u5 u6 u7 u8 u9 u10 u11 u1  0 (Sum.elim (fun z=>K (.inl (z.1,u1,(u1.length:Int),z.2,u4,u5,u6,u7,u8,u9,u10,u11))) (fun z=>K (.inr (u0,u1,(u1.length:Int),z,u4,u5,u6,u7,u8,u9,u10,u11)))):=
 wzp h0 u1 0 Fuel rfl (vak h0)
def wvk (a0:dTxn)(k:Bool→OR):OR:=
 vor false a0.2.2.2.2.1 a0.1 a0.2.1 a0.2.2.1 a0.2.2.2.1 a0.2.2.2.2.1 a0.2.2.2.2.2.1 a0.2.2.2.2.2.2.1 a0.2.2.2.2.2.2.2 a0.2.2.2.2.1  0 (Sum.elim (fun z30=>
  k z30.1) (fun _=>
  vej a0.1 (1:Int) (9999:Int) (fun y32=>
   bif (!y32)then
    k false
   else
    vej a0.2.1 (1:Int) (3:Int) (fun y33=>
     bif (!y33)then
      k false
     else
      vej a0.2.2.1 (0:Int) (9999:Int) (fun y34=>
       bif (!y34)then
        k false
       else
        bif (decide ((a0.2.2.2.2.1.length:Int)>(8:Int)))then
         k false
        else
         v3s a0.2.2.2.2.2.1 (fun y35=>
          bif (!y35)then
           k false
          else
           bif a0.2.2.2.2.2.2.1 then
            bif (a0.2.1==(1:Int))then
             k false
            else
             ver false a0.1 a0.2.1 a0.2.2.1 a0.2.2.2.1 a0.2.2.2.2.1 a0.2.2.2.2.2.1 a0.2.2.2.2.2.2.1 a0.2.2.2.2.2.2.2 (fun z36=>
              k z36)
           else
            ver false a0.1 a0.2.1 a0.2.2.1 a0.2.2.2.1 a0.2.2.2.2.1 a0.2.2.2.2.2.1 a0.2.2.2.2.2.2.1 a0.2.2.2.2.2.2.2 (fun z37=>
             k z37)))))))
theorem xbn {a0:dTxn}(h0:a0.2.2.2.2.1.length<9223372036854775807){k:Bool→OR}:vl6 a0 k=wvk a0 k:=by
 rw [wut]
 simp only [wmb,wvk,v5g,(wzb h0),Sum.elim_inl,Sum.elim_inr]
def vm7 (u0 u2:(List TL)):List TL→Int→Nat→((Int×Int)→OR)→OR
 |[],s1,i,k=>
  k (s1,(i:Int))
 |y::l,s1,i,k=>
  bif (decide ((IntKind.wrap .i64 (s1+(y.length:Int)))<(0:Int)))then
   none
  else
   vm7 u0 u2 l (IntKind.wrap .i64 (s1+(y.length:Int))) (i+1) k
theorem w0j {u0 u2}(h0:u2.length<9223372036854775807){K:q0T→OR}:∀(l:List TL) (i n:Nat),u2.drop i=l→l.length<n→∀(s1:Int),vab vp8 n (u0,s1,u2,(u2.length:Int),(i:Int)) K=vm7 u0 u2 l s1 i (fun z=>K (u0,z.1,u2,(u2.length:Int),z.2)):=
 vao h0 (fun i n a=>by intros;simp only [vab,vp8,vm7,a,decide_false,cond_false,Sum.elim_inr,Sum.elim_inl])
  (fun y l i n a f=>by intros;simp only [vab,vp8,vm7,a,decide_true,cond_true,and_self,if_true,Sum.elim_inl,Sum.elim_inr,f])
theorem w2l {u0 u2}(h0:u2.length<9223372036854775807){K:q0T→OR}{s1:Int}:vab vp8 Fuel (u0,s1,u2,(u2.length:Int),(0:Int)) K=vm7 u0 u2 u2 s1 0 (fun z=>K (u0,z.1,u2,(u2.length:Int),z.2)):=
 w0j h0 u2 0 Fuel rfl (vak h0) s1
def wwy (a0:(List TL))(k:(TL⊕TL)→OR):OR:=
 vm7 a0 a0 a0 (0:Int) 0 (fun z30=>
  v5z z30.1 (Sum.elim (fun y31=>
   vab ve4 Fuel (.inl (a0,(a0.length:Int),(0:Int),y31)) (Sum.elim (fun z32=>
    k (.inl z32.2.2.2)) (fun z33=>
    k (.inr z33.2.2.2)))) (fun y34=>
   vab ve4 Fuel (.inr (a0,(a0.length:Int),(0:Int),y34)) (Sum.elim (fun z35=>
    k (.inl z35.2.2.2)) (fun z36=>
    k (.inr z36.2.2.2))))))
theorem xbh {a0:(List TL)}(h0:a0.length<9223372036854775807){k:(TL⊕TL)→OR}:vw8 a0 k=wwy a0 k:=by
 rw [wxf]
 simp only [wm0,wwy,(w2l h0),Sum.elim_inl,Sum.elim_inr]
def vi5 (u0:TL)(u1:Int):List dTxn→Int→Int→Int→Int→RL→WL→Bool→ByteArray→Nat→((q99T⊕q96T)→OR)→OR
 |[],s4,s5,s6,s7,s8,s9,s10,s11,i,k=>
  k (.inr ((i:Int),s4,s5,s6,s7,s8,s9,s10,s11))
 |y::l,s4,s5,s6,s7,s8,s9,s10,s11,i,k=>
  v6j y s4 s5 s6 s7 s8 s9 s10 s11 (fun y1=>
   let y1h:=y1.2.2.2.2
   bif y1.1 then
    k (.inl ((i:Int),(i:Int),y1.2.1,y1.2.2.1,y1.2.2.2.1,y1h.1,y1h.2.1,y1h.2.2.1,y1h.2.2.2.1,y1h.2.2.2.2))
   else
    vi5 u0 u1 l y1.2.1 y1.2.2.1 y1.2.2.2.1 y1h.1 y1h.2.1 y1h.2.2.1 y1h.2.2.2.1 y1h.2.2.2.2 (i+1) k)
theorem wwa {u0 u1}(h0:u0.length<9223372036854775807){K:(q14T⊕q14T)→OR}:∀(l:List dTxn) (i n:Nat),u0.drop i=l→l.length<n→∀(s4:Int) (s5:Int) (s6:Int) (s7:Int) (s8:RL) (s9:WL) (s10:Bool) (s11:ByteArray),vab vi8 n (u0,u1,(u0.length:Int),(i:Int),s4,s5,s6,s7,s8,s9,s10,s11) K=vi5 u0 u1 l s4 s5 s6 s7 s8 s9 s10 s11 i (Sum.elim (fun z=>K (.inl (u0,z.1,(u0.length:Int),z.2.1,z.2.2.1,z.2.2.2.1,z.2.2.2.2.1,z.2.2.2.2.2.1,z.2.2.2.2.2.2.1,z.2.2.2.2.2.2.2.1,z.2.2.2.2.2.2.2.2.1,z.2.2.2.2.2.2.2.2.2))) (fun z=>K (.inr (u0,u1,(u0.length:Int),z.1,z.2.1,z.2.2.1,z.2.2.2.1,z.2.2.2.2.1,z.2.2.2.2.2.1,z.2.2.2.2.2.2.1,z.2.2.2.2.2.2.2.1,z.2.2.2.2.2.2.2.2)))):=
 vao h0 (fun i n a=>by intros;simp only [vab,vi8,vi5,a,decide_false,cond_false,Sum.elim_inr,Sum.elim_inl])
  (fun y l i n a f=>by intros;simp only [vab,vi8,vi5,a,decide_true,cond_true,and_self,if_true,Sum.elim_inl,Sum.elim_inr,f])
theorem wt1 {u0 u1}(h0:u0.length<9223372036854775807){K:(q14T⊕q14T)→OR}{s4:Int}{s5:Int}{s6:Int}{s7:Int}{s8:RL}{s9:WL}{s10:Bool}{s11:ByteArray}:vab vi8 Fuel (u0,u1,(u0.length:Int),(0:Int),s4,s5,s6,s7,s8,s9,s10,s11) K=vi5 u0 u1 u0 s4 s5 s6 s7 s8 s9 s10 s11 0 (Sum.elim (fun z=>K (.inl (u0,z.1,(u0.length:Int),z.2.1,z.2.2.1,z.2.2.2.1,z.2.2.2.2.1,z.2.2.2.2.2.1,z.2.2.2.2.2.2.1,z.2.2.2.2.2.2.2.1,z.2.2.2.2.2.2.2.2.1,z.2.2.2.2.2.2.2.2.2))) (fun z=>K (.inr (u0,u1,(u0.length:Int),z.1,z.2.1,z.2.2.1,z.2.2.2.1,z.2.2.2.2.1,z.2.2.2.2.2.1,z.2.2.2.2.2.2.1,z.2.2.2.2.2.2.2.1,z.2.2.2.2.2.2.2.2)))):=
 wwa h0 u0 0 Fuel rfl (vak h0) s4 s5 s6 s7 s8 s9 s10 s11
def wf9 (a0:TL)(a1:Int)(a2:Int)(a3:Int)(a4:Int)(a5:RL)(a6:WL)(a7:Bool)(a8:ByteArray)(k:q96T→OR):OR:=
 vi5 a0 (0:Int) a0 a1 a2 a3 a4 a5 a6 a7 a8 0 (Sum.elim (fun z30=>
  let z30h:=z30.2.2.2.2
  k (z30.1,z30.2.2.1,z30.2.2.2.1,z30h.1,z30h.2.1,z30h.2.2.1,z30h.2.2.2.1,z30h.2.2.2.2.1,z30h.2.2.2.2.2)) (fun z31=>
  let z31h:=z31.2.2.2.2
  k ((-1:Int),z31.2.1,z31.2.2.1,z31.2.2.2.1,z31h.1,z31h.2.1,z31h.2.2.1,z31h.2.2.2.1,z31h.2.2.2.2)))
theorem w6s {a0:TL}{a1:Int}{a2:Int}{a3:Int}{a4:Int}{a5:RL}{a6:WL}{a7:Bool}{a8:ByteArray}(h0:a0.length<9223372036854775807){k:q96T→OR}:v0l a0 a1 a2 a3 a4 a5 a6 a7 a8 k=wf9 a0 a1 a2 a3 a4 a5 a6 a7 a8 k:=by
 rw [we8]
 simp only [v8z,wf9,(wt1 h0),Sum.elim_inl,Sum.elim_inr]
def vqk (u0:TL)(u1:Int)(u2:Bool)(u3:TL):List dTxn→Nat→(((Bool×Int)⊕Int)→OR)→OR
 |[],i,k=>
  k (.inr (i:Int))
 |y::l,i,k=>
  bif (decide (y.1≥u1))then
   k (.inl (false,(i:Int)))
  else
   if 0≤(0:Int)∧(0:Int)≤(i:Int)∧(i:Int)≤(u0.length:Int)then
    v6a ((u0.take (i:Int).toNat).drop (0:Int).toNat) y.1 y.2.1 y.2.2.1 y.2.2.2.1 y.2.2.2.2.1 y.2.2.2.2.2.1 y.2.2.2.2.2.2.1 y.2.2.2.2.2.2.2 (fun y1=>
     bif y1.1 then
      k (.inl (false,(i:Int)))
     else
      vqk u0 u1 u2 u3 l (i+1) k)
   else none
theorem w1o {u0 u1} {u2 u3}(h0:u3.length<9223372036854775807){K:(q10T⊕q10T)→OR}:∀(l:List dTxn) (i n:Nat),u3.drop i=l→l.length<n→vab vph n (u0,u1,u2,u3,(u3.length:Int),(i:Int)) K=vqk u0 u1 u2 u3 l  i (Sum.elim (fun z=>K (.inl (u0,u1,z.1,u3,(u3.length:Int),z.2))) (fun z=>K (.inr (u0,u1,u2,u3,(u3.length:Int),z)))):=
 vao h0 (fun i n a=>by intros;simp only [vab,vph,vqk,a,decide_false,cond_false,Sum.elim_inr,Sum.elim_inl])
  (fun y l i n a f=>by intros;simp only [vab,vph,vqk,a,decide_true,cond_true,and_self,if_true,Sum.elim_inl,Sum.elim_inr,f])
theorem w18 {u0 u1} {u2 u3}(h0:u3.length<9223372036854775807){K:(q10T⊕q10T)→OR}  : vab vph Fuel (u0,u1,u2,u3,(u3.length:Int),(0:Int)) K=vqk u0 u1 u2 u3 u3  0 (Sum.elim (fun z=>K (.inl (u0,u1,z.1,u3,(u3.length:Int),z.2))) (fun z=>K (.inr (u0,u1,u2,u3,(u3.length:Int),z)))):=
 w1o h0 u3 0 Fuel rfl (vak h0)
def wv0 (a0:TL)(a1:Int)(k:Bool→OR):OR:=
 vqk a0 a1 false a0 a0  0 (Sum.elim (fun z30=>
  k z30.1) (fun _=>
  k true))
theorem xcc {a0:TL}{a1:Int}(h0:a0.length<9223372036854775807){k:Bool→OR}:vuy a0 a1 k=wv0 a0 a1 k:=by
 rw [wre]
 simp only [wmr,wv0,(w18 h0),Sum.elim_inl,Sum.elim_inr]
def vqg (u0:Bool)(u1 u4:VL)(u5 u6:TL)(u7 u8:Int):List vah→Nat→(((Bool×Int)⊕Int)→OR)→OR
 |[],i,k=>
  k (.inr (i:Int))
 |y::l,i,k=>
  bif (decide (y.2.2.2>u7))then
   k (.inl (false,(i:Int)))
  else
   vqg u0 u1 u4 u5 u6 u7 u8 l (i+1) k
theorem w2u {u0 u1} {u4 u5} {u6 u7 u8}(h0:u1.length<9223372036854775807){K:(q49T⊕q49T)→OR}:∀(l:List vah) (i n:Nat),u1.drop i=l→l.length<n→vab voe n (u0,u1,(u1.length:Int),(i:Int),u4,u5,u6,u7,u8) K=vqg u0 u1 u4 u5 u6 u7 u8 l  i (Sum.elim (fun z=>K (.inl (z.1,u1,(u1.length:Int),z.2,u4,u5,u6,u7,u8))) (fun z=>K (.inr (u0,u1,(u1.length:Int),z,u4,u5,u6,u7,u8)))):=
 vao h0 (fun i n a=>by intros;simp only [vab,voe,vqg,a,decide_false,cond_false,Sum.elim_inr,Sum.elim_inl])
  (fun y l i n a f=>by intros;simp only [vab,voe,vqg,a,decide_true,cond_true,and_self,if_true,Sum.elim_inl,Sum.elim_inr,f])
theorem w0q {u0 u1} {u4 u5} {u6 u7 u8}(h0:u1.length<9223372036854775807){K:(q49T⊕q49T)→OR}  : vab voe Fuel (u0,u1,(u1.length:Int),(0:Int),u4,u5,u6,u7,u8) K=vqg u0 u1 u4 u5 u6 u7 u8 u1  0 (Sum.elim (fun z=>K (.inl (z.1,u1,(u1.length:Int),z.2,u4,u5,u6,u7,u8))) (fun z=>K (.inr (u0,u1,(u1.length:Int),z,u4,u5,u6,u7,u8)))):=
 w2u h0 u1 0 Fuel rfl (vak h0)
def vm6 (u0:Bool)(u1:TL)(u4:VL)(u5 u6:TL)(u7 u8:Int):List dTxn→Nat→(((Bool×Int)⊕Int)→OR)→OR
 |[],i,k=>
  k (.inr (i:Int))
 |y::l,i,k=>
  vl6 y (fun y1=>
   bif (!y1)then
    k (.inl (false,(i:Int)))
   else
    vua y (fun y2=>
     bif (!y2)then
      k (.inl (false,(i:Int)))
     else
      bif (decide (y.2.2.2.1>u7))then
       k (.inl (false,(i:Int)))
      else
       bif (decide ((i:Int)>(0:Int)))then
        if 0≤(IntKind.wrap .i64 ((i:Int)-(1:Int)))∧(IntKind.wrap .i64 ((i:Int)-(1:Int)))<(u5.length:Int)then
         bif (decide ((rd (Ty.zero tTxn) u5 (IntKind.wrap .i64 ((i:Int)-(1:Int)))).2.2.2.1≥y.2.2.2.1))then
          k (.inl (false,(i:Int)))
         else
          vm6 u0 u1 u4 u5 u6 u7 u8 l (i+1) k
        else none
       else
        vm6 u0 u1 u4 u5 u6 u7 u8 l (i+1) k))
theorem w1t {u0 u1} {u4 u5} {u6 u7 u8}(h0:u1.length<9223372036854775807){K:(q44T⊕q44T)→OR}:∀(l:List dTxn) (i n:Nat),u1.drop i=l→l.length<n→vab vn6 n (u0,u1,(u1.length:Int),(i:Int),u4,u5,u6,u7,u8) K=vm6 u0 u1 u4 u5 u6 u7 u8 l  i (Sum.elim (fun z=>K (.inl (z.1,u1,(u1.length:Int),z.2,u4,u5,u6,u7,u8))) (fun z=>K (.inr (u0,u1,(u1.length:Int),z,u4,u5,u6,u7,u8)))):=
 vao h0 (fun i n a=>by intros;simp only [vab,vn6,vm6,a,decide_false,cond_false,Sum.elim_inr,Sum.elim_inl])
  (fun y l i n a f=>by intros;simp only [vab,vn6,vm6,a,decide_true,cond_true,and_self,if_true,Sum.elim_inl,Sum.elim_inr,f])
theorem w2v {u0 u1} {u4 u5} {u6 u7 u8}(h0:u1.length<9223372036854775807){K:(q44T⊕q44T)→OR}  : vab vn6 Fuel (u0,u1,(u1.length:Int),(0:Int),u4,u5,u6,u7,u8) K=vm6 u0 u1 u4 u5 u6 u7 u8 u1  0 (Sum.elim (fun z=>K (.inl (z.1,u1,(u1.length:Int),z.2,u4,u5,u6,u7,u8))) (fun z=>K (.inr (u0,u1,(u1.length:Int),z,u4,u5,u6,u7,u8)))):=
 w1t h0 u1 0 Fuel rfl (vak h0)
def vmm (u0:Bool)(u1:TL)(u4:VL)(u5 u6:TL)(u7 u8:Int):List dTxn→Nat→(((Bool×Int)⊕Int)→OR)→OR
 |[],i,k=>
  k (.inr (i:Int))
 |y::l,i,k=>
  vl6 y (fun y1=>
   bif (!y1)then
    k (.inl (false,(i:Int)))
   else
    vxf y (fun y2=>
     bif (!y2)then
      k (.inl (false,(i:Int)))
     else
      bif (decide (y.2.2.1>u7))then
       k (.inl (false,(i:Int)))
      else
       bif (decide ((i:Int)>(0:Int)))then
        if 0≤(IntKind.wrap .i64 ((i:Int)-(1:Int)))∧(IntKind.wrap .i64 ((i:Int)-(1:Int)))<(u6.length:Int)then
         bif (!(vai ((rd (Ty.zero tTxn) u6 (IntKind.wrap .i64 ((i:Int)-(1:Int)))).2.2.2.2.2.2.2) (y.2.2.2.2.2.2.2)))then
          k (.inl (false,(i:Int)))
         else
          vmm u0 u1 u4 u5 u6 u7 u8 l (i+1) k
        else none
       else
        vmm u0 u1 u4 u5 u6 u7 u8 l (i+1) k))
theorem w12 {u0 u1} {u4 u5} {u6 u7 u8}(h0:u1.length<9223372036854775807){K:(q44T⊕q44T)→OR}:∀(l:List dTxn) (i n:Nat),u1.drop i=l→l.length<n→vab vqj n (u0,u1,(u1.length:Int),(i:Int),u4,u5,u6,u7,u8) K=vmm u0 u1 u4 u5 u6 u7 u8 l  i (Sum.elim (fun z=>K (.inl (z.1,u1,(u1.length:Int),z.2,u4,u5,u6,u7,u8))) (fun z=>K (.inr (u0,u1,(u1.length:Int),z,u4,u5,u6,u7,u8)))):=
 vao h0 (fun i n a=>by intros;simp only [vab,vqj,vmm,a,decide_false,cond_false,Sum.elim_inr,Sum.elim_inl])
  (fun y l i n a f=>by intros;simp only [vab,vqj,vmm,a,decide_true,cond_true,and_self,if_true,Sum.elim_inl,Sum.elim_inr,f])
theorem w3a {u0 u1} {u4 u5} {u6 u7 u8}(h0:u1.length<9223372036854775807){K:(q44T⊕q44T)→OR}  : vab vqj Fuel (u0,u1,(u1.length:Int),(0:Int),u4,u5,u6,u7,u8) K=vmm u0 u1 u4 u5 u6 u7 u8 u1  0 (Sum.elim (fun z=>K (.inl (z.1,u1,(u1.length:Int),z.2,u4,u5,u6,u7,u8))) (fun z=>K (.inr (u0,u1,(u1.length:Int),z,u4,u5,u6,u7,u8)))):=
 w12 h0 u1 0 Fuel rfl (vak h0)
def vgf (u0:Bool)(u1:VL)(u2 u3:TL)(u4 u5:Int)(k:Bool→OR):OR:=
  vqg u0 u1 u1 u2 u3 u4 u5 u1  0 (Sum.elim (fun z1=>
   k z1.1) (fun _=>
   vm6 u0 u2 u1 u2 u3 u4 u5 u2  0 (Sum.elim (fun z3=>
    k z3.1) (fun _=>
    vmm u0 u3 u1 u2 u3 u4 u5 u3  0 (Sum.elim (fun z5=>
     k z5.1) (fun _=>
     vw8 [u2,u3] (Sum.elim (fun y7=>
      vuy y7 u5 (fun y8=>
       k y8)) (fun y9=>
      vuy y9 u5 (fun y10=>
       k y10)))))))))
theorem v4x {u0 u1} {u2 u3} {u4 u5}(h0:u3.length<9223372036854775807)(h1:u2.length<9223372036854775807)(h2:u1.length<9223372036854775807){K:q48T→OR}:vei (u0,u1,u2,u3,u4,u5) K=vgf u0 u1 u2 u3 u4 u5 (fun z=>K (z,u1,u2,u3,u4,u5)):=by
 simp only [vei,vgf,(w3a h0),(w2v h1),(w0q h2),Sum.elim_inl,Sum.elim_inr]
def wui (a0:va3)(k:Bool→OR):OR:=
 v0h a0.1 (fun y30=>
  bif (!y30)then
   k false
  else
   bif (decide ((a0.2.1.length:Int)>(12:Int)))then
    k false
   else
    bif (decide ((a0.2.2.1.length:Int)>(3:Int)))then
     k false
    else
     vej a0.2.2.2.1 (0:Int) (9999:Int) (fun y31=>
      bif (!y31)then
       k false
      else
       vej a0.2.2.2.2 (1:Int) (9999:Int) (fun y32=>
        bif (!y32)then
         k false
        else
         vgf false a0.1 a0.2.1 a0.2.2.1 a0.2.2.2.1 a0.2.2.2.2 (fun z33=>
          k z33))))
theorem xa2 {a0:va3}(h0:a0.2.2.1.length<9223372036854775807)(h1:a0.2.1.length<9223372036854775807)(h2:a0.1.length<9223372036854775807){k:Bool→OR}:vrd a0 k=wui a0 k:=by
 rw [wwm]
 simp only [wm6,wui,(v4x h0 h1 h2),Sum.elim_inl,Sum.elim_inr]
def vmc (u0:TL):List dTxn→TL→Nat→((Int×TL)→OR)→OR
 |[],s3,i,k=>
  k ((i:Int),s3)
 |y::l,s3,i,k=>
  vtw y (fun y1=>
   let y1h:=y1.2.2.2.2
   if s3.length+[(y1.1,(y1.2.1,(y1.2.2.1,(y1.2.2.2.1,(y1h.2.2.1,(y1h.2.2.2,(y1h.1,y1h.2.1)))))))].length≤VE.maxLen then
    vmc u0 l (s3++[(y1.1,(y1.2.1,(y1.2.2.1,(y1.2.2.2.1,(y1h.2.2.1,(y1h.2.2.2,(y1h.1,y1h.2.1)))))))]) (i+1) k
   else none)
theorem w01 {u0}(h0:u0.length<9223372036854775807){K:q11T→OR}:∀(l:List dTxn) (i n:Nat),u0.drop i=l→l.length<n→∀(s3:TL),vab vnz n (u0,(u0.length:Int),(i:Int),s3) K=vmc u0 l s3 i (fun z=>K (u0,(u0.length:Int),z.1,z.2)):=
 vao h0 (fun i n a=>by intros;simp only [vab,vnz,vmc,a,decide_false,cond_false,Sum.elim_inr,Sum.elim_inl])
  (fun y l i n a f=>by intros;simp only [vab,vnz,vmc,a,decide_true,cond_true,and_self,if_true,Sum.elim_inl,Sum.elim_inr,f])
theorem wzw {u0}(h0:u0.length<9223372036854775807){K:q11T→OR}{s3:TL}:vab vnz Fuel (u0,(u0.length:Int),(0:Int),s3) K=vmc u0 u0 s3 0 (fun z=>K (u0,(u0.length:Int),z.1,z.2)):=
 w01 h0 u0 0 Fuel rfl (vak h0) s3
def wup (a0:TL)(k:TL→OR):OR:=
 vmc a0 a0 ([]:List dTxn) 0 (fun z30=>
  k z30.2)
theorem w9t {a0:TL}(h0:a0.length<9223372036854775807){k:TL→OR}:v0m a0 k=wup a0 k:=by
 rw [wta]
 simp only [wmi,wup,(wzw h0),Sum.elim_inl,Sum.elim_inr]
def vb5 (u0 u1:Bool)(u2 u3:Bool)(u4 u5:Int)(u6 u7 u8:Int)(u9:RL)(u10:WL)(u11:Bool)(u12 u13:ByteArray)(u14:Bool)(u15:VL)(u16 u17:TL)(u18 u19:Int)(k:Bool→OR):OR:=
  bif u1 then
   bif u2 then
    bif u3 then
     bif (!u14)then
      k true
     else
      k (u4==(3:Int))
    else
     k false
   else
    k false
  else
   k false
theorem v45 {u0 u1} {u2 u3} {u4 u5} {u6 u7} {u8 u9} {u10 u11} {u12 u13} {u14 u15} {u16 u17} {u18 u19}  {K:q54T→OR}:vbp (u0,u1,u2,u3,u4,u5,u6,u7,u8,u9,u10,u11,u12,u13,u14,u15,u16,u17,u18,u19) K=vb5 u0 u1 u2 u3 u4 u5 u6 u7 u8 u9 u10 u11 u12 u13 u14 u15 u16 u17 u18 u19 (fun z=>K (z,u1,u2,u3,u4,u5,u6,u7,u8,u9,u10,u11,u12,u13,u14,u15,u16,u17,u18,u19)):=by
 simp only [vbp,vb5,Sum.elim_inl,Sum.elim_inr]
def wqh (a0:vcg)(k:Bool→OR):OR:=
 v5r a0.2.1 (fun y30=>
  v7u a0.2.2.2.2 (fun y31=>
   bif (a0.1==(1:Int))then
    vl6 a0.2.1 (fun y32=>
     bif y32 then
      vua a0.2.1 (fun y33=>
       vb5 false y33 (vaj a0.2.2.1 (⟨#[]⟩:ByteArray)) y31 a0.1 a0.2.1.1 a0.2.1.2.1 a0.2.1.2.2.1 a0.2.1.2.2.2.1 a0.2.1.2.2.2.2.1 a0.2.1.2.2.2.2.2.1 a0.2.1.2.2.2.2.2.2.1 a0.2.1.2.2.2.2.2.2.2 a0.2.2.1 a0.2.2.2.1 a0.2.2.2.2.1 a0.2.2.2.2.2.1 a0.2.2.2.2.2.2.1 a0.2.2.2.2.2.2.2.1 a0.2.2.2.2.2.2.2.2 (fun z34=>
        k z34))
     else
      vb5 false false (vaj a0.2.2.1 (⟨#[]⟩:ByteArray)) y31 a0.1 a0.2.1.1 a0.2.1.2.1 a0.2.1.2.2.1 a0.2.1.2.2.2.1 a0.2.1.2.2.2.2.1 a0.2.1.2.2.2.2.2.1 a0.2.1.2.2.2.2.2.2.1 a0.2.1.2.2.2.2.2.2.2 a0.2.2.1 a0.2.2.2.1 a0.2.2.2.2.1 a0.2.2.2.2.2.1 a0.2.2.2.2.2.2.1 a0.2.2.2.2.2.2.2.1 a0.2.2.2.2.2.2.2.2 (fun z35=>
       k z35))
   else
    bif (a0.1==(2:Int))then
     vl6 a0.2.1 (fun y36=>
      bif y36 then
       vxf a0.2.1 (fun y37=>
        vb5 false y37 (vaj a0.2.2.1 (⟨#[]⟩:ByteArray)) y31 a0.1 a0.2.1.1 a0.2.1.2.1 a0.2.1.2.2.1 a0.2.1.2.2.2.1 a0.2.1.2.2.2.2.1 a0.2.1.2.2.2.2.2.1 a0.2.1.2.2.2.2.2.2.1 a0.2.1.2.2.2.2.2.2.2 a0.2.2.1 a0.2.2.2.1 a0.2.2.2.2.1 a0.2.2.2.2.2.1 a0.2.2.2.2.2.2.1 a0.2.2.2.2.2.2.2.1 a0.2.2.2.2.2.2.2.2 (fun z38=>
         k z38))
      else
       vb5 false false (vaj a0.2.2.1 (⟨#[]⟩:ByteArray)) y31 a0.1 a0.2.1.1 a0.2.1.2.1 a0.2.1.2.2.1 a0.2.1.2.2.2.1 a0.2.1.2.2.2.2.1 a0.2.1.2.2.2.2.2.1 a0.2.1.2.2.2.2.2.2.1 a0.2.1.2.2.2.2.2.2.2 a0.2.2.1 a0.2.2.2.1 a0.2.2.2.2.1 a0.2.2.2.2.2.1 a0.2.2.2.2.2.2.1 a0.2.2.2.2.2.2.2.1 a0.2.2.2.2.2.2.2.2 (fun z39=>
        k z39))
    else
     bif (a0.1==(3:Int))then
      vkb a0.2.2.1 (fun y40=>
       vb5 false y30 y40 y31 a0.1 a0.2.1.1 a0.2.1.2.1 a0.2.1.2.2.1 a0.2.1.2.2.2.1 a0.2.1.2.2.2.2.1 a0.2.1.2.2.2.2.2.1 a0.2.1.2.2.2.2.2.2.1 a0.2.1.2.2.2.2.2.2.2 a0.2.2.1 a0.2.2.2.1 a0.2.2.2.2.1 a0.2.2.2.2.2.1 a0.2.2.2.2.2.2.1 a0.2.2.2.2.2.2.2.1 a0.2.2.2.2.2.2.2.2 (fun z41=>
        k z41))
     else
      bif (a0.1==(4:Int))then
       vrd a0.2.2.2.2 (fun y42=>
        vb5 false y30 (vaj a0.2.2.1 (⟨#[]⟩:ByteArray)) y42 a0.1 a0.2.1.1 a0.2.1.2.1 a0.2.1.2.2.1 a0.2.1.2.2.2.1 a0.2.1.2.2.2.2.1 a0.2.1.2.2.2.2.2.1 a0.2.1.2.2.2.2.2.2.1 a0.2.1.2.2.2.2.2.2.2 a0.2.2.1 a0.2.2.2.1 a0.2.2.2.2.1 a0.2.2.2.2.2.1 a0.2.2.2.2.2.2.1 a0.2.2.2.2.2.2.2.1 a0.2.2.2.2.2.2.2.2 (fun z43=>
         k z43))
      else
       k false))
theorem w92 {a0:vcg}  {k:Bool→OR}:v6k a0 k=wqh a0 k:=by
 rw [wwi]
 simp only [wnb,wqh,v45,Sum.elim_inl,Sum.elim_inr]
def vpb (u0:WL)(u1:Bool)(u2:RL)(u3 u4:Int)(u5:WL)(u8 u9:ByteArray):List vb9→Nat→(((Bool×Int)⊕Int)→OR)→OR
 |[],i,k=>
  k (.inr (i:Int))
 |y::l,i,k=>
  v5q (u8,u9) y.1 (fun y1=>
   bif y1 then
    k (.inl (true,(i:Int)))
   else
    vpb u0 u1 u2 u3 u4 u5 u8 u9 l (i+1) k)
theorem wz9 {u0 u1} {u2 u3} {u4 u5} {u8 u9}(h0:u5.length<9223372036854775807){K:(q36T⊕q36T)→OR}:∀(l:List vb9) (i n:Nat),u5.drop i=l→l.length<n→vab voj n (u0,u1,u2,u3,u4,u5,(u5.length:Int),(i:Int),u8,u9) K=vpb u0 u1 u2 u3 u4 u5 u8 u9 l  i (Sum.elim (fun z=>K (.inl (u0,z.1,u2,u3,u4,u5,(u5.length:Int),z.2,u8,u9))) (fun z=>K (.inr (u0,u1,u2,u3,u4,u5,(u5.length:Int),z,u8,u9)))):=
 vao h0 (fun i n a=>by intros;simp only [vab,voj,vpb,a,decide_false,cond_false,Sum.elim_inr,Sum.elim_inl])
  (fun y l i n a f=>by intros;simp only [vab,voj,vpb,a,decide_true,cond_true,and_self,if_true,Sum.elim_inl,Sum.elim_inr,f])
theorem wlm {u0 u1} {u2 u3} {u4 u5} {u8 u9}(h0:u5.length<9223372036854775807){K:(q36T⊕q36T)→OR}  : vab voj Fuel (u0,u1,u2,u3,u4,u5,(u5.length:Int),(0:Int),u8,u9) K=vpb u0 u1 u2 u3 u4 u5 u8 u9 u5  0 (Sum.elim (fun z=>K (.inl (u0,z.1,u2,u3,u4,u5,(u5.length:Int),z.2,u8,u9))) (fun z=>K (.inr (u0,u1,u2,u3,u4,u5,(u5.length:Int),z,u8,u9)))):=
 wz9 h0 u5 0 Fuel rfl (vak h0)
def vp7 (u0:WL)(u1:Bool)(u2:RL):List vbz→Nat→((Int⊕(Bool×Int))→OR)→OR
 |[],i,k=>
  k (.inl (i:Int))
 |y::l,i,k=>
  vpb u0 u1 u2 (u2.length:Int) (i:Int) u0 y.1 y.2 u0  0 (Sum.elim (fun z1=>
   k (.inr (z1.1,(i:Int)))) (fun _=>
   vp7 u0 u1 u2 l (i+1) k))
theorem w2y {u0 u1 u2}(h0:u2.length<9223372036854775807)(h1:u0.length<9223372036854775807){K:(q37T⊕q37T)→OR}:∀(l:List vbz) (i n:Nat),u2.drop i=l→l.length<n→vab vqi n (u0,u1,u2,(u2.length:Int),(i:Int)) K=vp7 u0 u1 u2 l  i (Sum.elim (fun z=>K (.inl (u0,u1,u2,(u2.length:Int),z))) (fun z=>K (.inr (u0,z.1,u2,(u2.length:Int),z.2)))):=
 vao h0 (fun i n a=>by intros;simp only [vab,vqi,vp7,a,decide_false,cond_false,Sum.elim_inr,Sum.elim_inl,(wlm h1)])
  (fun y l i n a f=>by intros;simp only [vab,vqi,vp7,a,decide_true,cond_true,and_self,if_true,Sum.elim_inl,Sum.elim_inr,f,(wlm h1)])
theorem w1n {u0 u1 u2}(h0:u2.length<9223372036854775807)(h1:u0.length<9223372036854775807){K:(q37T⊕q37T)→OR}  : vab vqi Fuel (u0,u1,u2,(u2.length:Int),(0:Int)) K=vp7 u0 u1 u2 u2  0 (Sum.elim (fun z=>K (.inl (u0,u1,u2,(u2.length:Int),z))) (fun z=>K (.inr (u0,z.1,u2,(u2.length:Int),z.2)))):=
 w2y h0 h1 u2 0 Fuel rfl (vak h0)
def wuw (a0:RL)(a1:WL)(k:Bool→OR):OR:=
 vp7 a1 false a0 a0  0 (Sum.elim (fun _=>
  k false) (fun z31=>
  k z31.1))
theorem xcl {a0:RL}{a1:WL}(h0:a0.length<9223372036854775807)(h1:a1.length<9223372036854775807){k:Bool→OR}:v70 a0 a1 k=wuw a0 a1 k:=by
 rw [wx1]
 simp only [wle,wuw,(w1n h0 h1),Sum.elim_inl,Sum.elim_inr]
def vjd (u0:TL)(u1:Int):List dTxn→Int→Int→Int→Int→RL→WL→Bool→ByteArray→Nat→((q99T⊕q96T)→OR)→OR
 |[],s4,s5,s6,s7,s8,s9,s10,s11,i,k=>
  k (.inr ((i:Int),s4,s5,s6,s7,s8,s9,s10,s11))
 |y::l,s4,s5,s6,s7,s8,s9,s10,s11,i,k=>
  v54 y s4 s5 s6 s7 s8 s9 s10 s11 (fun y1=>
   let y1h:=y1.2.2.2.2
   bif y1.1 then
    k (.inl ((i:Int),(i:Int),y1.2.1,y1.2.2.1,y1.2.2.2.1,y1h.1,y1h.2.1,y1h.2.2.1,y1h.2.2.2.1,y1h.2.2.2.2))
   else
    vjd u0 u1 l y1.2.1 y1.2.2.1 y1.2.2.2.1 y1h.1 y1h.2.1 y1h.2.2.1 y1h.2.2.2.1 y1h.2.2.2.2 (i+1) k)
theorem wxs {u0 u1}(h0:u0.length<9223372036854775807){K:(q14T⊕q14T)→OR}:∀(l:List dTxn) (i n:Nat),u0.drop i=l→l.length<n→∀(s4:Int) (s5:Int) (s6:Int) (s7:Int) (s8:RL) (s9:WL) (s10:Bool) (s11:ByteArray),vab vjp n (u0,u1,(u0.length:Int),(i:Int),s4,s5,s6,s7,s8,s9,s10,s11) K=vjd u0 u1 l s4 s5 s6 s7 s8 s9 s10 s11 i (Sum.elim (fun z=>K (.inl (u0,z.1,(u0.length:Int),z.2.1,z.2.2.1,z.2.2.2.1,z.2.2.2.2.1,z.2.2.2.2.2.1,z.2.2.2.2.2.2.1,z.2.2.2.2.2.2.2.1,z.2.2.2.2.2.2.2.2.1,z.2.2.2.2.2.2.2.2.2))) (fun z=>K (.inr (u0,u1,(u0.length:Int),z.1,z.2.1,z.2.2.1,z.2.2.2.1,z.2.2.2.2.1,z.2.2.2.2.2.1,z.2.2.2.2.2.2.1,z.2.2.2.2.2.2.2.1,z.2.2.2.2.2.2.2.2)))):=
 vao h0 (fun i n a=>by intros;simp only [vab,vjp,vjd,a,decide_false,cond_false,Sum.elim_inr,Sum.elim_inl])
  (fun y l i n a f=>by intros;simp only [vab,vjp,vjd,a,decide_true,cond_true,and_self,if_true,Sum.elim_inl,Sum.elim_inr,f])
theorem wt9 {u0 u1}(h0:u0.length<9223372036854775807){K:(q14T⊕q14T)→OR}{s4:Int}{s5:Int}{s6:Int}{s7:Int}{s8:RL}{s9:WL}{s10:Bool}{s11:ByteArray}:vab vjp Fuel (u0,u1,(u0.length:Int),(0:Int),s4,s5,s6,s7,s8,s9,s10,s11) K=vjd u0 u1 u0 s4 s5 s6 s7 s8 s9 s10 s11 0 (Sum.elim (fun z=>K (.inl (u0,z.1,(u0.length:Int),z.2.1,z.2.2.1,z.2.2.2.1,z.2.2.2.2.1,z.2.2.2.2.2.1,z.2.2.2.2.2.2.1,z.2.2.2.2.2.2.2.1,z.2.2.2.2.2.2.2.2.1,z.2.2.2.2.2.2.2.2.2))) (fun z=>K (.inr (u0,u1,(u0.length:Int),z.1,z.2.1,z.2.2.1,z.2.2.2.1,z.2.2.2.2.1,z.2.2.2.2.2.1,z.2.2.2.2.2.2.1,z.2.2.2.2.2.2.2.1,z.2.2.2.2.2.2.2.2)))):=
 wxs h0 u0 0 Fuel rfl (vak h0) s4 s5 s6 s7 s8 s9 s10 s11
def wf6 (a0:TL)(a1:Int)(a2:Int)(a3:Int)(a4:Int)(a5:RL)(a6:WL)(a7:Bool)(a8:ByteArray)(k:q96T→OR):OR:=
 vjd a0 (0:Int) a0 a1 a2 a3 a4 a5 a6 a7 a8 0 (Sum.elim (fun z30=>
  let z30h:=z30.2.2.2.2
  k (z30.1,z30.2.2.1,z30.2.2.2.1,z30h.1,z30h.2.1,z30h.2.2.1,z30h.2.2.2.1,z30h.2.2.2.2.1,z30h.2.2.2.2.2)) (fun z31=>
  let z31h:=z31.2.2.2.2
  k ((-1:Int),z31.2.1,z31.2.2.1,z31.2.2.2.1,z31h.1,z31h.2.1,z31h.2.2.1,z31h.2.2.2.1,z31h.2.2.2.2)))
theorem w6i {a0:TL}{a1:Int}{a2:Int}{a3:Int}{a4:Int}{a5:RL}{a6:WL}{a7:Bool}{a8:ByteArray}(h0:a0.length<9223372036854775807){k:q96T→OR}:vz6 a0 a1 a2 a3 a4 a5 a6 a7 a8 k=wf6 a0 a1 a2 a3 a4 a5 a6 a7 a8 k:=by
 rw [whk]
 simp only [v9h,wf6,(wt9 h0),Sum.elim_inl,Sum.elim_inr]
def vjn (u0:VL)(u1:Int):List vah→ByteArray→ByteArray→Bool→Int→Nat→(((Int×Int×ByteArray×ByteArray×Bool×Int)⊕q84T)→OR)→OR
 |[],s4,s5,s6,s7,i,k=>
  k (.inr ((i:Int),s4,s5,s6,s7))
 |y::l,s4,s5,s6,s7,i,k=>
  wex y s4 s5 s6 s7 (fun y1=>
   bif y1.1 then
    k (.inl ((i:Int),(i:Int),y1.2.1,y1.2.2.1,y1.2.2.2.1,y1.2.2.2.2))
   else
    vjn u0 u1 l y1.2.1 y1.2.2.1 y1.2.2.2.1 y1.2.2.2.2 (i+1) k)
theorem wrj {u0 u1}(h0:u0.length<9223372036854775807){K:(q33T⊕q33T)→OR}:∀(l:List vah) (i n:Nat),u0.drop i=l→l.length<n→∀(s4:ByteArray) (s5:ByteArray) (s6:Bool) (s7:Int),vab vjx n (u0,u1,(u0.length:Int),(i:Int),s4,s5,s6,s7) K=vjn u0 u1 l s4 s5 s6 s7 i (Sum.elim (fun z=>K (.inl (u0,z.1,(u0.length:Int),z.2.1,z.2.2.1,z.2.2.2.1,z.2.2.2.2.1,z.2.2.2.2.2))) (fun z=>K (.inr (u0,u1,(u0.length:Int),z.1,z.2.1,z.2.2.1,z.2.2.2.1,z.2.2.2.2)))):=
 vao h0 (fun i n a=>by intros;simp only [vab,vjx,vjn,a,decide_false,cond_false,Sum.elim_inr,Sum.elim_inl])
  (fun y l i n a f=>by intros;simp only [vab,vjx,vjn,a,decide_true,cond_true,and_self,if_true,Sum.elim_inl,Sum.elim_inr,f])
theorem ww3 {u0 u1}(h0:u0.length<9223372036854775807){K:(q33T⊕q33T)→OR}{s4:ByteArray}{s5:ByteArray}{s6:Bool}{s7:Int}:vab vjx Fuel (u0,u1,(u0.length:Int),(0:Int),s4,s5,s6,s7) K=vjn u0 u1 u0 s4 s5 s6 s7 0 (Sum.elim (fun z=>K (.inl (u0,z.1,(u0.length:Int),z.2.1,z.2.2.1,z.2.2.2.1,z.2.2.2.2.1,z.2.2.2.2.2))) (fun z=>K (.inr (u0,u1,(u0.length:Int),z.1,z.2.1,z.2.2.1,z.2.2.2.1,z.2.2.2.2)))):=
 wrj h0 u0 0 Fuel rfl (vak h0) s4 s5 s6 s7
def wia (a0:VL)(a1:ByteArray)(a2:ByteArray)(a3:Bool)(a4:Int)(k:q84T→OR):OR:=
 vjn a0 (0:Int) a0 a1 a2 a3 a4 0 (Sum.elim (fun z30=>
  k (z30.1,z30.2.2.1,z30.2.2.2.1,z30.2.2.2.2.1,z30.2.2.2.2.2)) (fun z31=>
  k ((-1:Int),z31.2.1,z31.2.2.1,z31.2.2.2.1,z31.2.2.2.2)))
theorem w7u {a0:VL}{a1:ByteArray}{a2:ByteArray}{a3:Bool}{a4:Int}(h0:a0.length<9223372036854775807){k:q84T→OR}:vwm a0 a1 a2 a3 a4 k=wia a0 a1 a2 a3 a4 k:=by
 rw [wij]
 simp only [wae,wia,(ww3 h0),Sum.elim_inl,Sum.elim_inr]
def vm4 (u0:Int)(u1:WL):List vb9→VL→Nat→((Int×VL)→OR)→OR
 |[],s4,i,k=>
  k ((i:Int),s4)
 |y::l,s4,i,k=>
  vwm s4 y.1 y.2.1 y.2.2 u0 (fun y1=>
   bif (decide (y1.1<(0:Int)))then
    vqe (s4.length:Int) s4 [y1.2] (fun y2=>
     vm4 u0 u1 l y2.2 (i+1) k)
   else
    vqe y1.1 s4 [y1.2] (fun y3=>
     vm4 u0 u1 l y3.2 (i+1) k))
theorem w0f {u0 u1}(h0:u1.length<9223372036854775807){K:q83T→OR}:∀(l:List vb9) (i n:Nat),u1.drop i=l→l.length<n→∀(s4:VL),vab vpi n (u0,u1,(u1.length:Int),(i:Int),s4) K=vm4 u0 u1 l s4 i (fun z=>K (u0,u1,(u1.length:Int),z.1,z.2)):=
 vao h0 (fun i n a=>by intros;simp only [vab,vpi,vm4,a,decide_false,cond_false,Sum.elim_inr,Sum.elim_inl])
  (fun y l i n a f=>by intros;simp only [vab,vpi,vm4,a,decide_true,cond_true,and_self,if_true,Sum.elim_inl,Sum.elim_inr,f])
theorem wza {u0 u1}(h0:u1.length<9223372036854775807){K:q83T→OR}{s4:VL}:vab vpi Fuel (u0,u1,(u1.length:Int),(0:Int),s4) K=vm4 u0 u1 u1 s4 0 (fun z=>K (u0,u1,(u1.length:Int),z.1,z.2)):=
 w0f h0 u1 0 Fuel rfl (vak h0) s4
def wty (a0:VL)(a1:WL)(a2:Int)(k:VL→OR):OR:=
 if a0.length≤VE.maxLen then
  vm4 a2 a1 a1 a0 0 (fun z30=>
   k z30.2)
 else none
theorem xb3 {a0:VL}{a1:WL}{a2:Int}(h0:a1.length<9223372036854775807){k:VL→OR}:v61 a0 a1 a2 k=wty a0 a1 a2 k:=by
 rw [ws9]
 simp only [wj0,wty,(wza h0),Sum.elim_inl,Sum.elim_inr]
def vg8 (u0:TL)(u1:Int):List dTxn→Int→Int→Int→Int→Bool→ByteArray→Nat→(((Int×Int×Int×Int×Int×Int×Bool×ByteArray)⊕q98T)→OR)→OR
 |[],s4,s5,s6,s7,s8,s9,i,k=>
  k (.inr ((i:Int),s4,s5,s6,s7,s8,s9))
 |y::l,s4,s5,s6,s7,s8,s9,i,k=>
  vxt y s4 s5 s6 s7 s8 s9 (fun y1=>
   let y1h:=y1.2.2.2.2
   bif y1.1 then
    k (.inl ((i:Int),(i:Int),y1.2.1,y1.2.2.1,y1.2.2.2.1,y1h.1,y1h.2.1,y1h.2.2))
   else
    vg8 u0 u1 l y1.2.1 y1.2.2.1 y1.2.2.2.1 y1h.1 y1h.2.1 y1h.2.2 (i+1) k)
theorem wvs {u0 u1}(h0:u0.length<9223372036854775807){K:(q15T⊕q15T)→OR}:∀(l:List dTxn) (i n:Nat),u0.drop i=l→l.length<n→∀(s4:Int) (s5:Int) (s6:Int) (s7:Int) (s8:Bool) (s9:ByteArray),vab vji n (u0,u1,(u0.length:Int),(i:Int),s4,s5,s6,s7,s8,s9) K=vg8 u0 u1 l s4 s5 s6 s7 s8 s9 i (Sum.elim (fun z=>K (.inl (u0,z.1,(u0.length:Int),z.2.1,z.2.2.1,z.2.2.2.1,z.2.2.2.2.1,z.2.2.2.2.2.1,z.2.2.2.2.2.2.1,z.2.2.2.2.2.2.2))) (fun z=>K (.inr (u0,u1,(u0.length:Int),z.1,z.2.1,z.2.2.1,z.2.2.2.1,z.2.2.2.2.1,z.2.2.2.2.2.1,z.2.2.2.2.2.2)))):=
 vao h0 (fun i n a=>by intros;simp only [vab,vji,vg8,a,decide_false,cond_false,Sum.elim_inr,Sum.elim_inl])
  (fun y l i n a f=>by intros;simp only [vab,vji,vg8,a,decide_true,cond_true,and_self,if_true,Sum.elim_inl,Sum.elim_inr,f])
theorem wsr {u0 u1}(h0:u0.length<9223372036854775807){K:(q15T⊕q15T)→OR}{s4:Int}{s5:Int}{s6:Int}{s7:Int}{s8:Bool}{s9:ByteArray}:vab vji Fuel (u0,u1,(u0.length:Int),(0:Int),s4,s5,s6,s7,s8,s9) K=vg8 u0 u1 u0 s4 s5 s6 s7 s8 s9 0 (Sum.elim (fun z=>K (.inl (u0,z.1,(u0.length:Int),z.2.1,z.2.2.1,z.2.2.2.1,z.2.2.2.2.1,z.2.2.2.2.2.1,z.2.2.2.2.2.2.1,z.2.2.2.2.2.2.2))) (fun z=>K (.inr (u0,u1,(u0.length:Int),z.1,z.2.1,z.2.2.1,z.2.2.2.1,z.2.2.2.2.1,z.2.2.2.2.2.1,z.2.2.2.2.2.2)))):=
 wvs h0 u0 0 Fuel rfl (vak h0) s4 s5 s6 s7 s8 s9
def whh (a0:TL)(a1:Int)(a2:Int)(a3:Int)(a4:Int)(a5:Bool)(a6:ByteArray)(k:q98T→OR):OR:=
 vg8 a0 (0:Int) a0 a1 a2 a3 a4 a5 a6 0 (Sum.elim (fun z30=>
  k (z30.1,z30.2.2.1,z30.2.2.2.1,z30.2.2.2.2.1,z30.2.2.2.2.2.1,z30.2.2.2.2.2.2.1,z30.2.2.2.2.2.2.2)) (fun z31=>
  k ((-1:Int),z31.2.1,z31.2.2.1,z31.2.2.2.1,z31.2.2.2.2.1,z31.2.2.2.2.2.1,z31.2.2.2.2.2.2)))
theorem w66 {a0:TL}{a1:Int}{a2:Int}{a3:Int}{a4:Int}{a5:Bool}{a6:ByteArray}(h0:a0.length<9223372036854775807){k:q98T→OR}:vr5 a0 a1 a2 a3 a4 a5 a6 k=whh a0 a1 a2 a3 a4 a5 a6 k:=by
 rw [wir]
 simp only [waz,whh,(wsr h0),Sum.elim_inl,Sum.elim_inr]
def wkf (a0:TL)(a1:Int)(a2:Int)(a3:Int)(a4:Int)(a5:Bool)(a6:ByteArray)(k:(q13T⊕q93T)→OR):OR:=
 vr5 a0 a1 a2 a3 a4 a5 a6 (fun y30=>
  let y30h:=y30.2.2.2.2
  bif (y30.1==(-1:Int))then
   k (.inl (a0,y30.2.1,y30.2.2.1,y30.2.2.2.1,y30h.1,y30h.2.1,y30h.2.2))
  else
   vab vic Fuel (.inl (y30.1,(IntKind.wrap .i64 (y30.1+(1:Int))),a0,([]:List Nat),y30.2.1,y30.2.2.1,y30.2.2.2.1,y30h.1,y30h.2.1,y30h.2.2)) (Sum.elim (fun z31=>
    let z31h:=z31.2.2.2.2
    if 0≤z31.1∧z31.1≤(z31.2.2.1.length:Int)then
     if 0≤z31.1∧z31.1≤((z31.2.2.1.take z31.1.toNat++List.replicate (z31.2.2.1.length-z31.1.toNat) (Ty.zero tTxn)).length:Int)then
      bif (geD z31.1.toNat (loD z31.1.toNat z31.2.2.2.1))then
       k (.inr (z31h.1,z31h.2.1,z31h.2.2.1,z31h.2.2.2.1,z31h.2.2.2.2.1,z31h.2.2.2.2.2,((z31.2.2.1.take z31.1.toNat++List.replicate (z31.2.2.1.length-z31.1.toNat) (Ty.zero tTxn)).take z31.1.toNat)))
      else
       none
     else none
    else none) (fun z32=>
    let z32h:=z32.2.2.2.2
    if 0≤z32.1∧z32.1≤(z32.2.2.1.length:Int)then
     if 0≤z32.1∧z32.1≤((z32.2.2.1.take z32.1.toNat++List.replicate (z32.2.2.1.length-z32.1.toNat) (Ty.zero tTxn)).length:Int)then
      bif (geD z32.1.toNat (loD z32.1.toNat z32.2.2.2.1))then
       k (.inr (z32h.1,z32h.2.1,z32h.2.2.1,z32h.2.2.2.1,z32h.2.2.2.2.1,z32h.2.2.2.2.2,((z32.2.2.1.take z32.1.toNat++List.replicate (z32.2.2.1.length-z32.1.toNat) (Ty.zero tTxn)).take z32.1.toNat)))
      else
       none
     else none
    else none)))
theorem w4u {a0:TL}{a1:Int}{a2:Int}{a3:Int}{a4:Int}{a5:Bool}{a6:ByteArray}  {k:(q13T⊕q93T)→OR}:v67 a0 a1 a2 a3 a4 a5 a6 k=wkf a0 a1 a2 a3 a4 a5 a6 k:=by
 rw [wuh]
 simp only [wj9,wkf,Sum.elim_inl,Sum.elim_inr]
def vhc (u0:TL)(u1:Int):List dTxn→ByteArray→Nat→(((Int×Int×ByteArray)⊕(Int×ByteArray))→OR)→OR
 |[],s4,i,k=>
  k (.inr ((i:Int),s4))
 |y::l,s4,i,k=>
  v5k y s4 (fun y1=>
   bif y1.1 then
    k (.inl ((i:Int),(i:Int),y1.2))
   else
    vhc u0 u1 l y1.2 (i+1) k)
theorem wrm {u0 u1}(h0:u0.length<9223372036854775807){K:(q12T⊕q12T)→OR}:∀(l:List dTxn) (i n:Nat),u0.drop i=l→l.length<n→∀(s4:ByteArray),vab viw n (u0,u1,(u0.length:Int),(i:Int),s4) K=vhc u0 u1 l s4 i (Sum.elim (fun z=>K (.inl (u0,z.1,(u0.length:Int),z.2.1,z.2.2))) (fun z=>K (.inr (u0,u1,(u0.length:Int),z.1,z.2)))):=
 vao h0 (fun i n a=>by intros;simp only [vab,viw,vhc,a,decide_false,cond_false,Sum.elim_inr,Sum.elim_inl])
  (fun y l i n a f=>by intros;simp only [vab,viw,vhc,a,decide_true,cond_true,and_self,if_true,Sum.elim_inl,Sum.elim_inr,f])
theorem wqu {u0 u1}(h0:u0.length<9223372036854775807){K:(q12T⊕q12T)→OR}{s4:ByteArray}:vab viw Fuel (u0,u1,(u0.length:Int),(0:Int),s4) K=vhc u0 u1 u0 s4 0 (Sum.elim (fun z=>K (.inl (u0,z.1,(u0.length:Int),z.2.1,z.2.2))) (fun z=>K (.inr (u0,u1,(u0.length:Int),z.1,z.2)))):=
 wrm h0 u0 0 Fuel rfl (vak h0) s4
def wgk (a0:TL)(a1:ByteArray)(k:(Int×ByteArray)→OR):OR:=
 vhc a0 (0:Int) a0 a1 0 (Sum.elim (fun z30=>
  k (z30.1,z30.2.2)) (fun z31=>
  k ((-1:Int),z31.2)))
theorem w80 {a0:TL}{a1:ByteArray}(h0:a0.length<9223372036854775807){k:(Int×ByteArray)→OR}:vzx a0 a1 k=wgk a0 a1 k:=by
 rw [wio]
 simp only [v9v,wgk,(wqu h0),Sum.elim_inl,Sum.elim_inr]
def vij (u0:ByteArray)(u3 u4:Int)(u5 u6:Int)(u7:RL)(u8:WL)(u9:Bool)(u10:ByteArray)(u11 u12:Int)(u13 u14:Int)(u15 u16:Int)(u17 u18:Int)(u19:Bool)(u20:ByteArray)(u23:TL)(u25:VL)(u26 u27:TL)(u28:VL)(u29:TL)(u30:RL)(u31:WL):List dTxn→TL→TL→(List Nat)→Nat→((Int×TL×TL×(List Nat))→OR)→OR
 |[],s21,s22,s24,i,k=>
  k ((i:Int),s21,s22,s24)
 |y::l,s21,s22,s24,i,k=>
  bif (hasD s24 ((i:Int).toNat))then
   none
  else
   bif (vai (y.2.2.2.2.2.2.2) u0)then
    if s21.length+[y].length≤VE.maxLen then
     vij u0 u3 u4 u5 u6 u7 u8 u9 u10 u11 u12 u13 u14 u15 u16 u17 u18 u19 u20 u23 u25 u26 u27 u28 u29 u30 u31 l (s21++[y]) s22 ((i:Int).toNat::((i:Int).toNat::s24)) (i+1) k
    else none
   else
    if s22.length+[y].length≤VE.maxLen then
     vij u0 u3 u4 u5 u6 u7 u8 u9 u10 u11 u12 u13 u14 u15 u16 u17 u18 u19 u20 u23 u25 u26 u27 u28 u29 u30 u31 l s21 (s22++[y]) ((i:Int).toNat::((i:Int).toNat::s24)) (i+1) k
    else none
theorem w1v {u0 u3} {u4 u5} {u6 u7} {u8 u9} {u10 u11} {u12 u13} {u14 u15} {u16 u17} {u18 u19} {u20 u23} {u25 u26} {u27 u28} {u29 u30 u31}(h0:u23.length<9223372036854775807){K:(ByteArray×Int×Int×Int×Int×Int×Int×RL×WL×Bool×ByteArray×Int×Int×Int×Int×Int×Int×Int×Int×Bool×ByteArray×TL×TL×TL×(List Nat)×VL×TL×TL×VL×TL×RL×WL)→OR}:∀(l:List dTxn) (i n:Nat),u23.drop i=l→l.length<n→∀(s21:TL) (s22:TL) (s24:(List Nat)),vab vov n (u0,(u23.length:Int),(i:Int),u3,u4,u5,u6,u7,u8,u9,u10,u11,u12,u13,u14,u15,u16,u17,u18,u19,u20,s21,s22,u23,s24,u25,u26,u27,u28,u29,u30,u31) K=vij u0 u3 u4 u5 u6 u7 u8 u9 u10 u11 u12 u13 u14 u15 u16 u17 u18 u19 u20 u23 u25 u26 u27 u28 u29 u30 u31 l s21 s22 s24 i (fun z=>K (u0,(u23.length:Int),z.1,u3,u4,u5,u6,u7,u8,u9,u10,u11,u12,u13,u14,u15,u16,u17,u18,u19,u20,z.2.1,z.2.2.1,u23,z.2.2.2,u25,u26,u27,u28,u29,u30,u31)):=
 vao h0 (fun i n a=>by intros;simp only [vab,vov,vij,a,decide_false,cond_false,Sum.elim_inr,Sum.elim_inl])
  (fun y l i n a f=>by intros;simp only [vab,vov,vij,a,decide_true,cond_true,and_self,if_true,Sum.elim_inl,Sum.elim_inr,f])
theorem w16 {u0 u3} {u4 u5} {u6 u7} {u8 u9} {u10 u11} {u12 u13} {u14 u15} {u16 u17} {u18 u19} {u20 u23} {u25 u26} {u27 u28} {u29 u30 u31}(h0:u23.length<9223372036854775807){K:(ByteArray×Int×Int×Int×Int×Int×Int×RL×WL×Bool×ByteArray×Int×Int×Int×Int×Int×Int×Int×Int×Bool×ByteArray×TL×TL×TL×(List Nat)×VL×TL×TL×VL×TL×RL×WL)→OR}{s21:TL}{s22:TL}{s24:(List Nat)}:vab vov Fuel (u0,(u23.length:Int),(0:Int),u3,u4,u5,u6,u7,u8,u9,u10,u11,u12,u13,u14,u15,u16,u17,u18,u19,u20,s21,s22,u23,s24,u25,u26,u27,u28,u29,u30,u31) K=vij u0 u3 u4 u5 u6 u7 u8 u9 u10 u11 u12 u13 u14 u15 u16 u17 u18 u19 u20 u23 u25 u26 u27 u28 u29 u30 u31 u23 s21 s22 s24 0 (fun z=>K (u0,(u23.length:Int),z.1,u3,u4,u5,u6,u7,u8,u9,u10,u11,u12,u13,u14,u15,u16,u17,u18,u19,u20,z.2.1,z.2.2.1,u23,z.2.2.2,u25,u26,u27,u28,u29,u30,u31)):=
 w1v h0 u23 0 Fuel rfl (vak h0) s21 s22 s24
def ves (u0:ByteArray)(u1 u2:Int)(u3 u4:Int)(u5:RL)(u6:WL)(u7:Bool)(u8:ByteArray)(u9 u10:Int)(u11 u12:Int)(u13 u14:Int)(u15 u16:Int)(u17:Bool)(u18:ByteArray)(u19:VL)(u20 u21:TL)(u22:VL)(u23 u24:TL)(u25:RL)(u26:WL)(k:(Int×Int×TL)→OR):OR:=
  vij u0 u1 u2 u3 u4 u5 u6 u7 u8 u9 u10 u11 u12 u13 u14 u15 u16 u17 u18 u24 u19 u20 u21 u22 u23 u25 u26 u24 ([]:List dTxn) ([]:List dTxn) ([]:List Nat) 0 (fun z1=>
   if z1.2.1.length+[(u13,(u14,(u15,(u16,(u25,(u26,(u17,u18)))))))].length≤VE.maxLen then
    if(z1.2.1++[(u13,(u14,(u15,(u16,(u25,(u26,(u17,u18)))))))]).length+z1.2.2.1.length≤VE.maxLen then
     k ((if(IntKind.wrap .i64 (u1+(1:Int)))>u12 then(IntKind.wrap .i64 (u1+(1:Int)))else u12),(if(IntKind.wrap .i64 (u1+(1:Int)))>u12 then(IntKind.wrap .i64 (u1+(1:Int)))else u12),((z1.2.1++[(u13,(u14,(u15,(u16,(u25,(u26,(u17,u18)))))))])++z1.2.2.1))
    else none
   else none)
theorem v4d {u0 u1} {u2 u3} {u4 u5} {u6 u7} {u8 u9} {u10 u11} {u12 u13} {u14 u15} {u16 u17} {u18 u19} {u20 u21} {u22 u23} {u24 u25 u26}(h0:u24.length<9223372036854775807){K:q75T→OR}:vb1 (u0,u1,u2,u3,u4,u5,u6,u7,u8,u9,u10,u11,u12,u13,u14,u15,u16,u17,u18,u19,u20,u21,u22,u23,u24,u25,u26) K=ves u0 u1 u2 u3 u4 u5 u6 u7 u8 u9 u10 u11 u12 u13 u14 u15 u16 u17 u18 u19 u20 u21 u22 u23 u24 u25 u26 (fun z=>K (u0,u1,u2,u3,u4,u5,u6,u7,u8,u11,z.1,u11,z.2.1,u13,u14,u15,u16,u17,u18,u22,u23,z.2.2)):=by
 simp only [vb1,ves,(w16 h0),Sum.elim_inl,Sum.elim_inr]
def wub (a0:va3)(a1:dTxn)(a2:ByteArray)(k:q86T→OR):OR:=
 vim a0 (fun y30=>
  vtw a1 (fun y31=>
   bif a1.2.2.2.2.2.2.1 then
    vb1 (a2,a1.1,a1.2.1,a1.2.2.1,a1.2.2.2.1,a1.2.2.2.2.1,a1.2.2.2.2.2.1,a1.2.2.2.2.2.2.1,a1.2.2.2.2.2.2.2,(0:Int),(0:Int),y30.1,y30.2.1,y31.1,(2:Int),y31.2.2.1,y31.2.2.2.1,true,a2,([]:List vah),([]:List dTxn),([]:List dTxn),y30.2.2.1,y30.2.2.2.1,y30.2.2.2.2,y31.2.2.2.2.2.2.1,y31.2.2.2.2.2.2.2) (fun z32=>
     let z32h:=z32.2.2.2.2
     let z32i:=z32h.2.2.2.2
     k (z32i.2.1,z32i.2.2.1,z32i.2.2.2.2.2.2.2.2.2.2.2.1,z32i.2.2.2.2.2.2.2.2.2.2.2.2.1,z32i.2.2.2.2.2.2.2.2.2.2.2.2.2))
   else
    v0j a1 a0.2.1 (fun y33=>
     vb1 (a2,a1.1,a1.2.1,a1.2.2.1,a1.2.2.2.1,a1.2.2.2.2.1,a1.2.2.2.2.2.1,a1.2.2.2.2.2.2.1,a1.2.2.2.2.2.2.2,(0:Int),(0:Int),y30.1,y30.2.1,y31.1,(2:Int),y31.2.2.1,y31.2.2.2.1,y33,a2,([]:List vah),([]:List dTxn),([]:List dTxn),y30.2.2.1,y30.2.2.2.1,y30.2.2.2.2,y31.2.2.2.2.2.2.1,y31.2.2.2.2.2.2.2) (fun z34=>
      let z34h:=z34.2.2.2.2
      let z34i:=z34h.2.2.2.2
      k (z34i.2.1,z34i.2.2.1,z34i.2.2.2.2.2.2.2.2.2.2.2.1,z34i.2.2.2.2.2.2.2.2.2.2.2.2.1,z34i.2.2.2.2.2.2.2.2.2.2.2.2.2)))))
theorem xbd {a0:va3}{a1:dTxn}{a2:ByteArray}  {k:q86T→OR}:vxb a0 a1 a2 k=wub a0 a1 a2 k:=by
 rw [wyj]
 simp only [wlf,wub,Sum.elim_inl,Sum.elim_inr]
def vme (u0:TL)(u1:Int):List dTxn→ByteArray→Nat→(((Int×Int×ByteArray)⊕(Int×ByteArray))→OR)→OR
 |[],s4,i,k=>
  k (.inr ((i:Int),s4))
 |y::l,s4,i,k=>
  vxc y s4 (fun y1=>
   bif y1.1 then
    k (.inl ((i:Int),(i:Int),y1.2))
   else
    vme u0 u1 l y1.2 (i+1) k)
theorem w0m {u0 u1}(h0:u0.length<9223372036854775807){K:(q12T⊕q12T)→OR}:∀(l:List dTxn) (i n:Nat),u0.drop i=l→l.length<n→∀(s4:ByteArray),vab vp6 n (u0,u1,(u0.length:Int),(i:Int),s4) K=vme u0 u1 l s4 i (Sum.elim (fun z=>K (.inl (u0,z.1,(u0.length:Int),z.2.1,z.2.2))) (fun z=>K (.inr (u0,u1,(u0.length:Int),z.1,z.2)))):=
 vao h0 (fun i n a=>by intros;simp only [vab,vp6,vme,a,decide_false,cond_false,Sum.elim_inr,Sum.elim_inl])
  (fun y l i n a f=>by intros;simp only [vab,vp6,vme,a,decide_true,cond_true,and_self,if_true,Sum.elim_inl,Sum.elim_inr,f])
theorem w25 {u0 u1}(h0:u0.length<9223372036854775807){K:(q12T⊕q12T)→OR}{s4:ByteArray}:vab vp6 Fuel (u0,u1,(u0.length:Int),(0:Int),s4) K=vme u0 u1 u0 s4 0 (Sum.elim (fun z=>K (.inl (u0,z.1,(u0.length:Int),z.2.1,z.2.2))) (fun z=>K (.inr (u0,u1,(u0.length:Int),z.1,z.2)))):=
 w0m h0 u0 0 Fuel rfl (vak h0) s4
def wr5 (a0:TL)(a1:ByteArray)(k:(Int×ByteArray)→OR):OR:=
 vme a0 (0:Int) a0 a1 0 (Sum.elim (fun z30=>
  k (z30.1,z30.2.2)) (fun z31=>
  k ((-1:Int),z31.2)))
theorem xan {a0:TL}{a1:ByteArray}(h0:a0.length<9223372036854775807){k:(Int×ByteArray)→OR}:v3x a0 a1 k=wr5 a0 a1 k:=by
 rw [wqe]
 simp only [wnh,wr5,(w25 h0),Sum.elim_inl,Sum.elim_inr]
def wkq (a0:TL)(a1:ByteArray)(k:((TL×ByteArray)⊕(ByteArray×TL))→OR):OR:=
 v3x a0 a1 (fun y30=>
  bif (y30.1==(-1:Int))then
   k (.inl (a0,y30.2))
  else
   vab vio Fuel (.inl (y30.1,(IntKind.wrap .i64 (y30.1+(1:Int))),a0,([]:List Nat),y30.2)) (Sum.elim (fun z31=>
    if 0≤z31.1∧z31.1≤(z31.2.2.1.length:Int)then
     if 0≤z31.1∧z31.1≤((z31.2.2.1.take z31.1.toNat++List.replicate (z31.2.2.1.length-z31.1.toNat) (Ty.zero tTxn)).length:Int)then
      bif (geD z31.1.toNat (loD z31.1.toNat z31.2.2.2.1))then
       k (.inr (z31.2.2.2.2,((z31.2.2.1.take z31.1.toNat++List.replicate (z31.2.2.1.length-z31.1.toNat) (Ty.zero tTxn)).take z31.1.toNat)))
      else
       none
     else none
    else none) (fun z32=>
    if 0≤z32.1∧z32.1≤(z32.2.2.1.length:Int)then
     if 0≤z32.1∧z32.1≤((z32.2.2.1.take z32.1.toNat++List.replicate (z32.2.2.1.length-z32.1.toNat) (Ty.zero tTxn)).length:Int)then
      bif (geD z32.1.toNat (loD z32.1.toNat z32.2.2.2.1))then
       k (.inr (z32.2.2.2.2,((z32.2.2.1.take z32.1.toNat++List.replicate (z32.2.2.1.length-z32.1.toNat) (Ty.zero tTxn)).take z32.1.toNat)))
      else
       none
     else none
    else none)))
theorem w5g {a0:TL}{a1:ByteArray}  {k:((TL×ByteArray)⊕(ByteArray×TL))→OR}:v8k a0 a1 k=wkq a0 a1 k:=by
 rw [wp5]
 simp only [wma,wkq,Sum.elim_inl,Sum.elim_inr]
def vr3 (u1:TL):List dTxn→Int→Nat→((Int×Int)→OR)→OR
 |[],s0,i,k=>
  k (s0,(i:Int))
 |y::l,s0,i,k=>
  vr3 u1 l (if y.2.2.1<s0 then y.2.2.1 else s0) (i+1) k
theorem w22 {u1}(h0:u1.length<9223372036854775807){K:q78T→OR}:∀(l:List dTxn) (i n:Nat),u1.drop i=l→l.length<n→∀(s0:Int),vab vpz n (s0,u1,(u1.length:Int),(i:Int)) K=vr3 u1 l s0 i (fun z=>K (z.1,u1,(u1.length:Int),z.2)):=
 vao h0 (fun i n a=>by intros;simp only [vab,vpz,vr3,a,decide_false,cond_false,Sum.elim_inr,Sum.elim_inl])
  (fun y l i n a f=>by intros;simp only [vab,vpz,vr3,a,decide_true,cond_true,and_self,if_true,Sum.elim_inl,Sum.elim_inr,f])
theorem w3l {u1}(h0:u1.length<9223372036854775807){K:q78T→OR}{s0:Int}:vab vpz Fuel (s0,u1,(u1.length:Int),(0:Int)) K=vr3 u1 u1 s0 0 (fun z=>K (z.1,u1,(u1.length:Int),z.2)):=
 w22 h0 u1 0 Fuel rfl (vak h0) s0
def wsa (a0:va3)(a1:TL)(k:Int→OR):OR:=
 vr3 a1 a1 a0.2.2.2.1 0 (fun z30=>
  k z30.1)
theorem xb7 {a0:va3}{a1:TL}(h0:a1.length<9223372036854775807){k:Int→OR}:v7j a0 a1 k=wsa a0 a1 k:=by
 rw [wr2]
 simp only [wk2,wsa,(w3l h0),Sum.elim_inl,Sum.elim_inr]
def vhg (u0:TL)(u1:Int):List dTxn→Int→Nat→(((Int×Int×Int)⊕(Int×Int))→OR)→OR
 |[],s4,i,k=>
  k (.inr ((i:Int),s4))
 |y::l,s4,i,k=>
  vxr y s4 (fun y1=>
   bif y1.1 then
    k (.inl ((i:Int),(i:Int),y1.2))
   else
    vhg u0 u1 l y1.2 (i+1) k)
theorem wwl {u0 u1}(h0:u0.length<9223372036854775807){K:(q16T⊕q16T)→OR}:∀(l:List dTxn) (i n:Nat),u0.drop i=l→l.length<n→∀(s4:Int),vab vjt n (u0,u1,(u0.length:Int),(i:Int),s4) K=vhg u0 u1 l s4 i (Sum.elim (fun z=>K (.inl (u0,z.1,(u0.length:Int),z.2.1,z.2.2))) (fun z=>K (.inr (u0,u1,(u0.length:Int),z.1,z.2)))):=
 vao h0 (fun i n a=>by intros;simp only [vab,vjt,vhg,a,decide_false,cond_false,Sum.elim_inr,Sum.elim_inl])
  (fun y l i n a f=>by intros;simp only [vab,vjt,vhg,a,decide_true,cond_true,and_self,if_true,Sum.elim_inl,Sum.elim_inr,f])
theorem wv8 {u0 u1}(h0:u0.length<9223372036854775807){K:(q16T⊕q16T)→OR}{s4:Int}:vab vjt Fuel (u0,u1,(u0.length:Int),(0:Int),s4) K=vhg u0 u1 u0 s4 0 (Sum.elim (fun z=>K (.inl (u0,z.1,(u0.length:Int),z.2.1,z.2.2))) (fun z=>K (.inr (u0,u1,(u0.length:Int),z.1,z.2)))):=
 wwl h0 u0 0 Fuel rfl (vak h0) s4
def wgy (a0:TL)(a1:Int)(k:(Int×Int)→OR):OR:=
 vhg a0 (0:Int) a0 a1 0 (Sum.elim (fun z30=>
  k (z30.1,z30.2.2)) (fun z31=>
  k ((-1:Int),z31.2)))
theorem w7j {a0:TL}{a1:Int}(h0:a0.length<9223372036854775807){k:(Int×Int)→OR}:vs0 a0 a1 k=wgy a0 a1 k:=by
 rw [whv]
 simp only [v8y,wgy,(wv8 h0),Sum.elim_inl,Sum.elim_inr]
def wjk (a0:TL)(a1:Int)(k:((TL×Int)⊕(Int×TL))→OR):OR:=
 vs0 a0 a1 (fun y30=>
  bif (y30.1==(-1:Int))then
   k (.inl (a0,y30.2))
  else
   vab vh6 Fuel (.inl (y30.1,(IntKind.wrap .i64 (y30.1+(1:Int))),a0,([]:List Nat),y30.2)) (Sum.elim (fun z31=>
    if 0≤z31.1∧z31.1≤(z31.2.2.1.length:Int)then
     if 0≤z31.1∧z31.1≤((z31.2.2.1.take z31.1.toNat++List.replicate (z31.2.2.1.length-z31.1.toNat) (Ty.zero tTxn)).length:Int)then
      bif (geD z31.1.toNat (loD z31.1.toNat z31.2.2.2.1))then
       k (.inr (z31.2.2.2.2,((z31.2.2.1.take z31.1.toNat++List.replicate (z31.2.2.1.length-z31.1.toNat) (Ty.zero tTxn)).take z31.1.toNat)))
      else
       none
     else none
    else none) (fun z32=>
    if 0≤z32.1∧z32.1≤(z32.2.2.1.length:Int)then
     if 0≤z32.1∧z32.1≤((z32.2.2.1.take z32.1.toNat++List.replicate (z32.2.2.1.length-z32.1.toNat) (Ty.zero tTxn)).length:Int)then
      bif (geD z32.1.toNat (loD z32.1.toNat z32.2.2.2.1))then
       k (.inr (z32.2.2.2.2,((z32.2.2.1.take z32.1.toNat++List.replicate (z32.2.2.1.length-z32.1.toNat) (Ty.zero tTxn)).take z32.1.toNat)))
      else
       none
     else none
    else none)))
theorem w4z {a0:TL}{a1:Int}  {k:((TL×Int)⊕(Int×TL))→OR}:v7n a0 a1 k=wjk a0 a1 k:=by
 rw [wux]
 simp only [wj5,wjk,Sum.elim_inl,Sum.elim_inr]
def vgt (u0:VL)(u1:ByteArray)(u2:Int)(u4:VL):List vah→Int→Nat→((Int×Int)→OR)→OR
 |[],s3,i,k=>
  k (s3,(i:Int))
 |y::l,s3,i,k=>
  bif (vaj (y.1) u1)then
   bif (decide (y.2.2.2≤u2))then
    bif (decide (s3<(0:Int)))then
     vgt u0 u1 u2 u4 l (i:Int) (i+1) k
    else
     if 0≤s3∧s3<(u0.length:Int)then
      bif (decide (y.2.2.2>(rd (Ty.zero tVersion) u0 s3).2.2.2))then
       vgt u0 u1 u2 u4 l (i:Int) (i+1) k
      else
       vgt u0 u1 u2 u4 l s3 (i+1) k
     else none
   else
    vgt u0 u1 u2 u4 l s3 (i+1) k
  else
   vgt u0 u1 u2 u4 l s3 (i+1) k
theorem wy7 {u0 u1} {u2 u4}(h0:u4.length<9223372036854775807){K:q26T→OR}:∀(l:List vah) (i n:Nat),u4.drop i=l→l.length<n→∀(s3:Int),vab vqc n (u0,u1,u2,s3,u4,(u4.length:Int),(i:Int)) K=vgt u0 u1 u2 u4 l s3 i (fun z=>K (u0,u1,u2,z.1,u4,(u4.length:Int),z.2)):=
 vao h0 (fun i n a=>by intros;simp only [vab,vqc,vgt,a,decide_false,cond_false,Sum.elim_inr,Sum.elim_inl])
  (fun y l i n a f=>by intros;simp only [vab,vqc,vgt,a,decide_true,cond_true,and_self,if_true,Sum.elim_inl,Sum.elim_inr,f])
theorem wy3 {u0 u1} {u2 u4}(h0:u4.length<9223372036854775807){K:q26T→OR}{s3:Int}:vab vqc Fuel (u0,u1,u2,s3,u4,(u4.length:Int),(0:Int)) K=vgt u0 u1 u2 u4 u4 s3 0 (fun z=>K (u0,u1,u2,z.1,u4,(u4.length:Int),z.2)):=
 wy7 h0 u4 0 Fuel rfl (vak h0) s3
def wsp (a0:VL)(a1:ByteArray)(a2:Int)(k:Int→OR):OR:=
 vgt a0 a1 a2 a0 a0 (-1:Int) 0 (fun z30=>
  k z30.1)
theorem xct {a0:VL}{a1:ByteArray}{a2:Int}(h0:a0.length<9223372036854775807){k:Int→OR}:vzw a0 a1 a2 k=wsp a0 a1 a2 k:=by
 rw [wts]
 simp only [wmm,wsp,(wy3 h0),Sum.elim_inl,Sum.elim_inr]
def vm1 (u0:ByteArray)(u4:VL):List vah→Int→Nat→((Int×Int)→OR)→OR
 |[],s1,i,k=>
  k (s1,(i:Int))
 |y::l,s1,i,k=>
  bif (vaj (y.1) u0)then
   vm1 u0 u4 l (IntKind.wrap .i64 (s1+(1:Int))) (i+1) k
  else
   vm1 u0 u4 l s1 (i+1) k
theorem wzz {u0 u4}(h0:u4.length<9223372036854775807){K:q73T→OR}:∀(l:List vah) (i n:Nat),u4.drop i=l→l.length<n→∀(s1:Int),vab vo4 n (u0,s1,(u4.length:Int),(i:Int),u4) K=vm1 u0 u4 l s1 i (fun z=>K (u0,z.1,(u4.length:Int),z.2,u4)):=
 vao h0 (fun i n a=>by intros;simp only [vab,vo4,vm1,a,decide_false,cond_false,Sum.elim_inr,Sum.elim_inl])
  (fun y l i n a f=>by intros;simp only [vab,vo4,vm1,a,decide_true,cond_true,and_self,if_true,Sum.elim_inl,Sum.elim_inr,f])
theorem w2f {u0 u4}(h0:u4.length<9223372036854775807){K:q73T→OR}{s1:Int}:vab vo4 Fuel (u0,s1,(u4.length:Int),(0:Int),u4) K=vm1 u0 u4 u4 s1 0 (fun z=>K (u0,z.1,(u4.length:Int),z.2,u4)):=
 wzz h0 u4 0 Fuel rfl (vak h0) s1
def wqa (a0:ByteArray)(a1:VL)(k:(Int×VL)→OR):OR:=
 vm1 a0 a1 a1 (0:Int) 0 (fun z30=>
  k (z30.1,a1))
theorem xb9 {a0:ByteArray}{a1:VL}(h0:a1.length<9223372036854775807){k:(Int×VL)→OR}:v5t a0 a1 k=wqa a0 a1 k:=by
 rw [wqz]
 simp only [wjw,wqa,(w2f h0),Sum.elim_inl,Sum.elim_inr]
def vd5 (u0:VL)(u1:Int)(u2:VL)(u3 u4:Int)(u5:Bool)(u6 u7:ByteArray)(u8:Bool)(u9:Int)(u10:VL)(k:VL→OR):OR:=
  bif u5 then
   if u10.length+[(u6,(u7,(u8,u9)))].length≤VE.maxLen then
    k (u10++[(u6,(u7,(u8,u9)))])
   else none
  else
   k u10
theorem vny {u0 u1} {u2 u3} {u4 u5} {u6 u7} {u8 u9 u10}  {K:q29T→OR}:vcz (u0,u1,u2,u3,u4,u5,u6,u7,u8,u9,u10) K=vd5 u0 u1 u2 u3 u4 u5 u6 u7 u8 u9 u10 (fun z=>K (u0,u1,u2,u3,u4,u5,u6,u7,u8,u9,z)):=by
 simp only [vcz,vd5,Sum.elim_inl,Sum.elim_inr]
def vk0 (u0:VL)(u1:Int)(u2:VL):List vah→VL→Nat→((Int×VL)→OR)→OR
 |[],s5,i,k=>
  k ((i:Int),s5)
 |y::l,s5,i,k=>
  bif (decide (y.2.2.2>u1))then
   vd5 u0 u1 u2 (u2.length:Int) (i:Int) true y.1 y.2.1 y.2.2.1 y.2.2.2 s5 (fun z1=>
    vk0 u0 u1 u2 l z1 (i+1) k)
  else
   vzw u0 y.1 u1 (fun y2=>
    vd5 u0 u1 u2 (u2.length:Int) (i:Int) (y2==(i:Int)) y.1 y.2.1 y.2.2.1 y.2.2.2 s5 (fun z3=>
     vk0 u0 u1 u2 l z3 (i+1) k))
theorem w3n {u0 u1 u2}(h0:u2.length<9223372036854775807){K:q28T→OR}:∀(l:List vah) (i n:Nat),u2.drop i=l→l.length<n→∀(s5:VL),vab vo7 n (u0,u1,u2,(u2.length:Int),(i:Int),s5) K=vk0 u0 u1 u2 l s5 i (fun z=>K (u0,u1,u2,(u2.length:Int),z.1,z.2)):=
 vao h0 (fun i n a=>by intros;simp only [vab,vo7,vk0,a,decide_false,cond_false,Sum.elim_inr,Sum.elim_inl,vny])
  (fun y l i n a f=>by intros;simp only [vab,vo7,vk0,a,decide_true,cond_true,and_self,if_true,Sum.elim_inl,Sum.elim_inr,f,vny])
theorem w2x {u0 u1 u2}(h0:u2.length<9223372036854775807){K:q28T→OR}{s5:VL}:vab vo7 Fuel (u0,u1,u2,(u2.length:Int),(0:Int),s5) K=vk0 u0 u1 u2 u2 s5 0 (fun z=>K (u0,u1,u2,(u2.length:Int),z.1,z.2)):=
 w3n h0 u2 0 Fuel rfl (vak h0) s5
def wvl (a0:VL)(a1:Int)(k:VL→OR):OR:=
 vk0 a0 a1 a0 a0 ([]:List vah) 0 (fun z30=>
  vab vo1 Fuel (a1,(z30.2.length:Int),(0:Int),([]:List vah),z30.2) (fun z31=>
   k z31.2.2.2.1))
theorem xc1 {a0:VL}{a1:Int}(h0:a0.length<9223372036854775807){k:VL→OR}:v0v a0 a1 k=wvl a0 a1 k:=by
 rw [wqo]
 simp only [wkw,wvl,(w2x h0),Sum.elim_inl,Sum.elim_inr]
def vn0 (u0 u1:VL)(u2:Bool):List vah→Nat→(((Bool×Int)⊕Int)→OR)→OR
 |[],i,k=>
  k (.inr (i:Int))
 |y::l,i,k=>
  if 0≤(i:Int)∧(i:Int)<(u1.length:Int)then
   v8h y (rd (Ty.zero tVersion) u1 (i:Int)) (fun y1=>
    bif (!y1)then
     k (.inl (false,(i:Int)))
    else
     vn0 u0 u1 u2 l (i+1) k)
  else none
theorem w2d {u0 u1 u2}(h0:u0.length<9223372036854775807){K:(q22T⊕q22T)→OR}:∀(l:List vah) (i n:Nat),u0.drop i=l→l.length<n→vab vqa n (u0,u1,u2,(i:Int)) K=vn0 u0 u1 u2 l  i (Sum.elim (fun z=>K (.inl (u0,u1,z.1,z.2))) (fun z=>K (.inr (u0,u1,u2,z)))):=
 vao h0 (fun i n a=>by intros;simp only [vab,vqa,vn0,a,decide_false,cond_false,Sum.elim_inr,Sum.elim_inl])
  (fun y l i n a f=>by intros;simp only [vab,vqa,vn0,a,decide_true,cond_true,and_self,if_true,Sum.elim_inl,Sum.elim_inr,f])
theorem w0y {u0 u1 u2}(h0:u0.length<9223372036854775807){K:(q22T⊕q22T)→OR}  : vab vqa Fuel (u0,u1,u2,(0:Int)) K=vn0 u0 u1 u2 u0  0 (Sum.elim (fun z=>K (.inl (u0,u1,z.1,z.2))) (fun z=>K (.inr (u0,u1,u2,z)))):=
 w2d h0 u0 0 Fuel rfl (vak h0)
def wu8 (a0:VL)(a1:VL)(k:Bool→OR):OR:=
 bif ((a0.length:Int) != (a1.length:Int))then
  k false
 else
  vn0 a0 a1 false a0  0 (Sum.elim (fun z30=>
   k z30.1) (fun _=>
   k true))
theorem xcv {a0:VL}{a1:VL}(h0:a0.length<9223372036854775807){k:Bool→OR}:v8g a0 a1 k=wu8 a0 a1 k:=by
 rw [wqq]
 simp only [wjo,wu8,(w0y h0),Sum.elim_inl,Sum.elim_inr]
def vp0 (u0 u1:RL)(u2:Bool):List vbz→Nat→(((Bool×Int)⊕Int)→OR)→OR
 |[],i,k=>
  k (.inr (i:Int))
 |y::l,i,k=>
  if 0≤(i:Int)∧(i:Int)<(u1.length:Int)then
   v7v y (rd (Ty.zero tRange) u1 (i:Int)) (fun y1=>
    bif (!y1)then
     k (.inl (false,(i:Int)))
    else
     vp0 u0 u1 u2 l (i+1) k)
  else none
theorem w3d {u0 u1 u2}(h0:u0.length<9223372036854775807){K:(q2T⊕q2T)→OR}:∀(l:List vbz) (i n:Nat),u0.drop i=l→l.length<n→vab voa n (u0,u1,u2,(i:Int)) K=vp0 u0 u1 u2 l  i (Sum.elim (fun z=>K (.inl (u0,u1,z.1,z.2))) (fun z=>K (.inr (u0,u1,u2,z)))):=
 vao h0 (fun i n a=>by intros;simp only [vab,voa,vp0,a,decide_false,cond_false,Sum.elim_inr,Sum.elim_inl])
  (fun y l i n a f=>by intros;simp only [vab,voa,vp0,a,decide_true,cond_true,and_self,if_true,Sum.elim_inl,Sum.elim_inr,f])
theorem w2i {u0 u1 u2}(h0:u0.length<9223372036854775807){K:(q2T⊕q2T)→OR}  : vab voa Fuel (u0,u1,u2,(0:Int)) K=vp0 u0 u1 u2 u0  0 (Sum.elim (fun z=>K (.inl (u0,u1,z.1,z.2))) (fun z=>K (.inr (u0,u1,u2,z)))):=
 w3d h0 u0 0 Fuel rfl (vak h0)
def wwk (a0:RL)(a1:RL)(k:Bool→OR):OR:=
 bif ((a0.length:Int) != (a1.length:Int))then
  k false
 else
  vp0 a0 a1 false a0  0 (Sum.elim (fun z30=>
   k z30.1) (fun _=>
   k true))
theorem xa3 {a0:RL}{a1:RL}(h0:a0.length<9223372036854775807){k:Bool→OR}:v6o a0 a1 k=wwk a0 a1 k:=by
 rw [wu9]
 simp only [wna,wwk,(w2i h0),Sum.elim_inl,Sum.elim_inr]
def vo8 (u0 u1:WL)(u2:Bool):List vb9→Nat→(((Bool×Int)⊕Int)→OR)→OR
 |[],i,k=>
  k (.inr (i:Int))
 |y::l,i,k=>
  if 0≤(i:Int)∧(i:Int)<(u1.length:Int)then
   v68 y (rd (Ty.zero tWrite) u1 (i:Int)) (fun y1=>
    bif (!y1)then
     k (.inl (false,(i:Int)))
    else
     vo8 u0 u1 u2 l (i+1) k)
  else none
theorem w2t {u0 u1 u2}(h0:u0.length<9223372036854775807){K:(q35T⊕q35T)→OR}:∀(l:List vb9) (i n:Nat),u0.drop i=l→l.length<n→vab vpw n (u0,u1,u2,(i:Int)) K=vo8 u0 u1 u2 l  i (Sum.elim (fun z=>K (.inl (u0,u1,z.1,z.2))) (fun z=>K (.inr (u0,u1,u2,z)))):=
 vao h0 (fun i n a=>by intros;simp only [vab,vpw,vo8,a,decide_false,cond_false,Sum.elim_inr,Sum.elim_inl])
  (fun y l i n a f=>by intros;simp only [vab,vpw,vo8,a,decide_true,cond_true,and_self,if_true,Sum.elim_inl,Sum.elim_inr,f])
theorem wzs {u0 u1 u2}(h0:u0.length<9223372036854775807){K:(q35T⊕q35T)→OR}  : vab vpw Fuel (u0,u1,u2,(0:Int)) K=vo8 u0 u1 u2 u0  0 (Sum.elim (fun z=>K (.inl (u0,u1,z.1,z.2))) (fun z=>K (.inr (u0,u1,u2,z)))):=
 w2t h0 u0 0 Fuel rfl (vak h0)
def wr7 (a0:WL)(a1:WL)(k:Bool→OR):OR:=
 bif ((a0.length:Int) != (a1.length:Int))then
  k false
 else
  vo8 a0 a1 false a0  0 (Sum.elim (fun z30=>
   k z30.1) (fun _=>
   k true))
theorem xcf {a0:WL}{a1:WL}(h0:a0.length<9223372036854775807){k:Bool→OR}:v5y a0 a1 k=wr7 a0 a1 k:=by
 rw [wr1]
 simp only [wls,wr7,(wzs h0),Sum.elim_inl,Sum.elim_inr]
def vn7 (u0 u1:TL)(u2:Bool):List dTxn→Nat→(((Bool×Int)⊕Int)→OR)→OR
 |[],i,k=>
  k (.inr (i:Int))
 |y::l,i,k=>
  if 0≤(i:Int)∧(i:Int)<(u1.length:Int)then
   vw0 y (rd (Ty.zero tTxn) u1 (i:Int)) (fun y1=>
    bif (!y1)then
     k (.inl (false,(i:Int)))
    else
     vn7 u0 u1 u2 l (i+1) k)
  else none
theorem w3f {u0 u1 u2}(h0:u0.length<9223372036854775807){K:(q7T⊕q7T)→OR}:∀(l:List dTxn) (i n:Nat),u0.drop i=l→l.length<n→vab vqb n (u0,u1,u2,(i:Int)) K=vn7 u0 u1 u2 l  i (Sum.elim (fun z=>K (.inl (u0,u1,z.1,z.2))) (fun z=>K (.inr (u0,u1,u2,z)))):=
 vao h0 (fun i n a=>by intros;simp only [vab,vqb,vn7,a,decide_false,cond_false,Sum.elim_inr,Sum.elim_inl])
  (fun y l i n a f=>by intros;simp only [vab,vqb,vn7,a,decide_true,cond_true,and_self,if_true,Sum.elim_inl,Sum.elim_inr,f])
theorem w2g {u0 u1 u2}(h0:u0.length<9223372036854775807){K:(q7T⊕q7T)→OR}  : vab vqb Fuel (u0,u1,u2,(0:Int)) K=vn7 u0 u1 u2 u0  0 (Sum.elim (fun z=>K (.inl (u0,u1,z.1,z.2))) (fun z=>K (.inr (u0,u1,u2,z)))):=
 w3f h0 u0 0 Fuel rfl (vak h0)
def wtq (a0:TL)(a1:TL)(k:Bool→OR):OR:=
 bif ((a0.length:Int) != (a1.length:Int))then
  k false
 else
  vn7 a0 a1 false a0  0 (Sum.elim (fun z30=>
   k z30.1) (fun _=>
   k true))
theorem xap {a0:TL}{a1:TL}(h0:a0.length<9223372036854775807){k:Bool→OR}:vzd a0 a1 k=wtq a0 a1 k:=by
 rw [wuo]
 simp only [wkp,wtq,(w2g h0),Sum.elim_inl,Sum.elim_inr]
def vml (u0:VL)(u2:Int):List vah→Int→Nat→(((Int×Int×Int)⊕(Int×Int))→OR)→OR
 |[],s1,i,k=>
  k (.inr (s1,(i:Int)))
 |y::l,s1,i,k=>
  vc9 s1 (fun y1=>
   bif (!(vaj (y.1) y1))then
    k (.inl (s1,(-1:Int),(i:Int)))
   else
    vc9 (IntKind.wrap .i64 (s1+(1:Int))) (fun y2=>
     bif (!(vaj (y.2.1) y2))then
      k (.inl ((IntKind.wrap .i64 (s1+(1:Int))),(-1:Int),(i:Int)))
     else
      bif (!(y.2.2.1==(((IntKind.wrap .i64 ((IntKind.wrap .i64 (s1+(1:Int)))+(1:Int))).tmod (3:Int))==(0:Int))))then
       k (.inl ((IntKind.wrap .i64 ((IntKind.wrap .i64 (s1+(1:Int)))+(1:Int))),(-1:Int),(i:Int)))
      else
       bif (y.2.2.2 != (IntKind.wrap .i64 ((IntKind.wrap .i64 ((IntKind.wrap .i64 (s1+(1:Int)))+(1:Int)))+(1:Int))))then
        k (.inl ((IntKind.wrap .i64 ((IntKind.wrap .i64 ((IntKind.wrap .i64 (s1+(1:Int)))+(1:Int)))+(1:Int))),(-1:Int),(i:Int)))
       else
        vml u0 u2 l (IntKind.wrap .i64 ((IntKind.wrap .i64 ((IntKind.wrap .i64 ((IntKind.wrap .i64 (s1+(1:Int)))+(1:Int)))+(1:Int)))+(1:Int))) (i+1) k))
theorem wz6 {u0 u2}(h0:u0.length<9223372036854775807){K:(q34T⊕q34T)→OR}:∀(l:List vah) (i n:Nat),u0.drop i=l→l.length<n→∀(s1:Int),vab vpy n (u0,s1,u2,(i:Int)) K=vml u0 u2 l s1 i (Sum.elim (fun z=>K (.inl (u0,z.1,z.2.1,z.2.2))) (fun z=>K (.inr (u0,z.1,u2,z.2)))):=
 vao h0 (fun i n a=>by intros;simp only [vab,vpy,vml,a,decide_false,cond_false,Sum.elim_inr,Sum.elim_inl])
  (fun y l i n a f=>by intros;simp only [vab,vpy,vml,a,decide_true,cond_true,and_self,if_true,Sum.elim_inl,Sum.elim_inr,f])
theorem w0s {u0 u2}(h0:u0.length<9223372036854775807){K:(q34T⊕q34T)→OR}{s1:Int}:vab vpy Fuel (u0,s1,u2,(0:Int)) K=vml u0 u2 u0 s1 0 (Sum.elim (fun z=>K (.inl (u0,z.1,z.2.1,z.2.2))) (fun z=>K (.inr (u0,z.1,u2,z.2)))):=
 wz6 h0 u0 0 Fuel rfl (vak h0) s1
def wv1 (a0:VL)(a1:Int)(k:Int→OR):OR:=
 vml a0 (0:Int) a0 a1 0 (Sum.elim (fun z30=>
  k z30.2.1) (fun z31=>
  k z31.1))
theorem xa9 {a0:VL}{a1:Int}(h0:a0.length<9223372036854775807){k:Int→OR}:v6h a0 a1 k=wv1 a0 a1 k:=by
 rw [wsf]
 simp only [wkn,wv1,(w0s h0),Sum.elim_inl,Sum.elim_inr]
def vm9 (u0:RL)(u2:Int):List vbz→Int→Nat→(((Int×Int×Int)⊕(Int×Int))→OR)→OR
 |[],s1,i,k=>
  k (.inr (s1,(i:Int)))
 |y::l,s1,i,k=>
  vc9 s1 (fun y1=>
   bif (!(vaj (y.1) y1))then
    k (.inl (s1,(-1:Int),(i:Int)))
   else
    vc9 (IntKind.wrap .i64 (s1+(1:Int))) (fun y2=>
     bif (!(vaj (y.2) y2))then
      k (.inl ((IntKind.wrap .i64 (s1+(1:Int))),(-1:Int),(i:Int)))
     else
      vm9 u0 u2 l (IntKind.wrap .i64 ((IntKind.wrap .i64 (s1+(1:Int)))+(1:Int))) (i+1) k))
theorem wz8 {u0 u2}(h0:u0.length<9223372036854775807){K:(q6T⊕q6T)→OR}:∀(l:List vbz) (i n:Nat),u0.drop i=l→l.length<n→∀(s1:Int),vab vpt n (u0,s1,u2,(i:Int)) K=vm9 u0 u2 l s1 i (Sum.elim (fun z=>K (.inl (u0,z.1,z.2.1,z.2.2))) (fun z=>K (.inr (u0,z.1,u2,z.2)))):=
 vao h0 (fun i n a=>by intros;simp only [vab,vpt,vm9,a,decide_false,cond_false,Sum.elim_inr,Sum.elim_inl])
  (fun y l i n a f=>by intros;simp only [vab,vpt,vm9,a,decide_true,cond_true,and_self,if_true,Sum.elim_inl,Sum.elim_inr,f])
theorem w0k {u0 u2}(h0:u0.length<9223372036854775807){K:(q6T⊕q6T)→OR}{s1:Int}:vab vpt Fuel (u0,s1,u2,(0:Int)) K=vm9 u0 u2 u0 s1 0 (Sum.elim (fun z=>K (.inl (u0,z.1,z.2.1,z.2.2))) (fun z=>K (.inr (u0,z.1,u2,z.2)))):=
 wz8 h0 u0 0 Fuel rfl (vak h0) s1
def wtw (a0:RL)(a1:Int)(k:Int→OR):OR:=
 vm9 a0 (0:Int) a0 a1 0 (Sum.elim (fun z30=>
  k z30.2.1) (fun z31=>
  k z31.1))
theorem xb6 {a0:RL}{a1:Int}(h0:a0.length<9223372036854775807){k:Int→OR}:v2k a0 a1 k=wtw a0 a1 k:=by
 rw [ws1]
 simp only [wly,wtw,(w0k h0),Sum.elim_inl,Sum.elim_inr]
def vmf (u0:WL)(u2:Int):List vb9→Int→Nat→(((Int×Int×Int)⊕(Int×Int))→OR)→OR
 |[],s1,i,k=>
  k (.inr (s1,(i:Int)))
 |y::l,s1,i,k=>
  vc9 s1 (fun y1=>
   bif (!(vaj (y.1) y1))then
    k (.inl (s1,(-1:Int),(i:Int)))
   else
    vc9 (IntKind.wrap .i64 (s1+(1:Int))) (fun y2=>
     bif (!(vaj (y.2.1) y2))then
      k (.inl ((IntKind.wrap .i64 (s1+(1:Int))),(-1:Int),(i:Int)))
     else
      bif (!(y.2.2==(((IntKind.wrap .i64 ((IntKind.wrap .i64 (s1+(1:Int)))+(1:Int))).tmod (3:Int))==(0:Int))))then
       k (.inl ((IntKind.wrap .i64 ((IntKind.wrap .i64 (s1+(1:Int)))+(1:Int))),(-1:Int),(i:Int)))
      else
       vmf u0 u2 l (IntKind.wrap .i64 ((IntKind.wrap .i64 ((IntKind.wrap .i64 (s1+(1:Int)))+(1:Int)))+(1:Int))) (i+1) k))
theorem w1u {u0 u2}(h0:u0.length<9223372036854775807){K:(q42T⊕q42T)→OR}:∀(l:List vb9) (i n:Nat),u0.drop i=l→l.length<n→∀(s1:Int),vab voi n (u0,s1,u2,(i:Int)) K=vmf u0 u2 l s1 i (Sum.elim (fun z=>K (.inl (u0,z.1,z.2.1,z.2.2))) (fun z=>K (.inr (u0,z.1,u2,z.2)))):=
 vao h0 (fun i n a=>by intros;simp only [vab,voi,vmf,a,decide_false,cond_false,Sum.elim_inr,Sum.elim_inl])
  (fun y l i n a f=>by intros;simp only [vab,voi,vmf,a,decide_true,cond_true,and_self,if_true,Sum.elim_inl,Sum.elim_inr,f])
theorem wz4 {u0 u2}(h0:u0.length<9223372036854775807){K:(q42T⊕q42T)→OR}{s1:Int}:vab voi Fuel (u0,s1,u2,(0:Int)) K=vmf u0 u2 u0 s1 0 (Sum.elim (fun z=>K (.inl (u0,z.1,z.2.1,z.2.2))) (fun z=>K (.inr (u0,z.1,u2,z.2)))):=
 w1u h0 u0 0 Fuel rfl (vak h0) s1
def wsz (a0:WL)(a1:Int)(k:Int→OR):OR:=
 vmf a0 (0:Int) a0 a1 0 (Sum.elim (fun z30=>
  k z30.2.1) (fun z31=>
  k z31.1))
theorem w9u {a0:WL}{a1:Int}(h0:a0.length<9223372036854775807){k:Int→OR}:v2s a0 a1 k=wsz a0 a1 k:=by
 rw [wxd]
 simp only [wm2,wsz,(wz4 h0),Sum.elim_inl,Sum.elim_inr]
def vmw (u0:TL)(u2:Int):List dTxn→Int→Nat→(((Int×Int×Int)⊕(Int×Int))→OR)→OR
 |[],s1,i,k=>
  k (.inr (s1,(i:Int)))
 |y::l,s1,i,k=>
  bif (y.1 != s1)then
   k (.inl (s1,(-1:Int),(i:Int)))
  else
   bif (y.2.1 != (IntKind.wrap .i64 (s1+(1:Int))))then
    k (.inl ((IntKind.wrap .i64 (s1+(1:Int))),(-1:Int),(i:Int)))
   else
    bif (y.2.2.1 != (IntKind.wrap .i64 ((IntKind.wrap .i64 (s1+(1:Int)))+(1:Int))))then
     k (.inl ((IntKind.wrap .i64 ((IntKind.wrap .i64 (s1+(1:Int)))+(1:Int))),(-1:Int),(i:Int)))
    else
     bif (y.2.2.2.1 != (IntKind.wrap .i64 ((IntKind.wrap .i64 ((IntKind.wrap .i64 (s1+(1:Int)))+(1:Int)))+(1:Int))))then
      k (.inl ((IntKind.wrap .i64 ((IntKind.wrap .i64 ((IntKind.wrap .i64 (s1+(1:Int)))+(1:Int)))+(1:Int))),(-1:Int),(i:Int)))
     else
      v2k y.2.2.2.2.1 (IntKind.wrap .i64 ((IntKind.wrap .i64 ((IntKind.wrap .i64 ((IntKind.wrap .i64 (s1+(1:Int)))+(1:Int)))+(1:Int)))+(1:Int))) (fun y1=>
       bif (decide (y1<(0:Int)))then
        k (.inl (y1,(-1:Int),(i:Int)))
       else
        v2s y.2.2.2.2.2.1 y1 (fun y2=>
         bif (decide (y2<(0:Int)))then
          k (.inl (y2,(-1:Int),(i:Int)))
         else
          bif (!(y.2.2.2.2.2.2.1==((y2.tmod (3:Int))==(0:Int))))then
           k (.inl (y2,(-1:Int),(i:Int)))
          else
           vc9 (IntKind.wrap .i64 (y2+(1:Int))) (fun y3=>
            bif (!(vaj (y.2.2.2.2.2.2.2) y3))then
             k (.inl ((IntKind.wrap .i64 (y2+(1:Int))),(-1:Int),(i:Int)))
            else
             vmw u0 u2 l (IntKind.wrap .i64 ((IntKind.wrap .i64 (y2+(1:Int)))+(1:Int))) (i+1) k)))
theorem w13 {u0 u2}(h0:u0.length<9223372036854775807){K:(q17T⊕q17T)→OR}:∀(l:List dTxn) (i n:Nat),u0.drop i=l→l.length<n→∀(s1:Int),vab vos n (u0,s1,u2,(i:Int)) K=vmw u0 u2 l s1 i (Sum.elim (fun z=>K (.inl (u0,z.1,z.2.1,z.2.2))) (fun z=>K (.inr (u0,z.1,u2,z.2)))):=
 vao h0 (fun i n a=>by intros;simp only [vab,vos,vmw,a,decide_false,cond_false,Sum.elim_inr,Sum.elim_inl])
  (fun y l i n a f=>by intros;simp only [vab,vos,vmw,a,decide_true,cond_true,and_self,if_true,Sum.elim_inl,Sum.elim_inr,f])
theorem w1k {u0 u2}(h0:u0.length<9223372036854775807){K:(q17T⊕q17T)→OR}{s1:Int}:vab vos Fuel (u0,s1,u2,(0:Int)) K=vmw u0 u2 u0 s1 0 (Sum.elim (fun z=>K (.inl (u0,z.1,z.2.1,z.2.2))) (fun z=>K (.inr (u0,z.1,u2,z.2)))):=
 w13 h0 u0 0 Fuel rfl (vak h0) s1
def ws4 (a0:TL)(a1:Int)(k:Int→OR):OR:=
 vmw a0 (0:Int) a0 a1 0 (Sum.elim (fun z30=>
  k z30.2.1) (fun z31=>
  k z31.1))
theorem xck {a0:TL}{a1:Int}(h0:a0.length<9223372036854775807){k:Int→OR}:v04 a0 a1 k=ws4 a0 a1 k:=by
 rw [wxx]
 simp only [wlg,ws4,(w1k h0),Sum.elim_inl,Sum.elim_inr]
end
end Go.VE
