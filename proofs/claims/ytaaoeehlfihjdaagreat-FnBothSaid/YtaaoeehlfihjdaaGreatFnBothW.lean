/- Loops told as recursions over what is left; written by gen.py. -/
import Derived.Test.YtaaoeehlfihjdaaGreatFnBothN
import Derived.Test.YtaaoeehlfihjdaaGreatP1
namespace Go.VE
noncomputable section
set_option linter.unusedVariables false
set_option linter.unusedSimpArgs false
set_option maxRecDepth 100000
def vmi (u0:TL):List dTxn→TL→Nat→((Int×TL)→OR)→OR
 |[],s3,i,k=>
  k ((i:Int),s3)
 |y::l,s3,i,k=>
  vhc y (fun y1=>
   let y1h:=y1.2.2.2.2
   if s3.length+[(y1.1,(y1.2.1,(y1.2.2.1,(y1.2.2.2.1,(y1h.2.2.1,(y1h.2.2.2,(y1h.1,y1h.2.1)))))))].length≤VE.maxLen then
    vmi u0 l (s3++[(y1.1,(y1.2.1,(y1.2.2.1,(y1.2.2.2.1,(y1h.2.2.1,(y1h.2.2.2,(y1h.1,y1h.2.1)))))))]) (i+1) k
   else none)
theorem wqd {u0}(h0:u0.length<9223372036854775807){K:q4T→OR}:∀(l:List dTxn) (i n:Nat),u0.drop i=l→l.length<n→∀(s3:TL),vad vof n (u0,(u0.length:Int),(i:Int),s3) K=vmi u0 l s3 i (fun z=>K (u0,(u0.length:Int),z.1,z.2)):=
 vbc h0 (fun i n a=>by intros;simp only [vad,vof,vmi,a,decide_false,cond_false,Sum.elim_inr,Sum.elim_inl])
  (fun y l i n a f=>by intros;simp only [vad,vof,vmi,a,decide_true,cond_true,and_self,if_true,Sum.elim_inl,Sum.elim_inr,f])
theorem wsx {u0}(h0:u0.length<9223372036854775807){K:q4T→OR}{s3:TL}:vad vof Fuel (u0,(u0.length:Int),(0:Int),s3) K=vmi u0 u0 s3 0 (fun z=>K (u0,(u0.length:Int),z.1,z.2)):=
 wqd h0 u0 0 Fuel rfl (vay h0) s3
def wi9 (a0:TL)(k:TL→OR):OR:=
 vmi a0 a0 ([]:List dTxn) 0 (fun z18=>
  k z18.2)
theorem wzt {a0:TL}(h0:a0.length<9223372036854775807){k:TL→OR}:vtx a0 k=wi9 a0 k:=by
 rw [wnp]
 simp only [wcz,wi9,(wsx h0),Sum.elim_inl,Sum.elim_inr]
def vn2 (u0:ByteArray)(u1:Bool):List Int→Nat→(((Bool×Int)⊕Int)→OR)→OR
 |[],i,k=>
  k (.inr (i:Int))
 |y::l,i,k=>
  bif (decide (y<(97:Int)))then
   k (.inl (false,(i:Int)))
  else
   bif (decide (y>(122:Int)))then
    k (.inl (false,(i:Int)))
   else
    vn2 u0 u1 l (i+1) k
theorem wst {u0 u1}(h0:u0.size<9223372036854775807){K:((ByteArray×Bool×Int)⊕(ByteArray×Bool×Int))→OR}:∀(l:List Int) (i n:Nat),(vea u0).drop i=l→l.length<n→vad vob n (u0,u1,(i:Int)) K=vn2 u0 u1 l  i (Sum.elim (fun z=>K (.inl (u0,z.1,z.2))) (fun z=>K (.inr (u0,u1,z)))):=
 wjd h0 (fun i n a=>by intros;simp only [vad,vob,vn2,a,decide_false,cond_false,Sum.elim_inr,Sum.elim_inl])
  (fun y l i n a f=>by intros;simp only [vad,vob,vn2,a,decide_true,cond_true,and_self,if_true,Sum.elim_inl,Sum.elim_inr,f])
theorem wqf {u0 u1}(h0:u0.size<9223372036854775807){K:((ByteArray×Bool×Int)⊕(ByteArray×Bool×Int))→OR}  : vad vob Fuel (u0,u1,(0:Int)) K=vn2 u0 u1 (vea u0)  0 (Sum.elim (fun z=>K (.inl (u0,z.1,z.2))) (fun z=>K (.inr (u0,u1,z)))):=
 wst h0 (vea u0) 0 Fuel rfl (ws1 h0)
def wjo (a0:ByteArray)(k:Bool→OR):OR:=
 vn2 a0 false (vea a0)  0 (Sum.elim (fun z18=>
  k z18.1) (fun _=>
  ve4 (a0.size:Int) (1:Int) (3:Int) (fun y20=>
   k y20)))
theorem w0t {a0:ByteArray}(h0:a0.size<9223372036854775807){k:Bool→OR}:vj1 a0 k=wjo a0 k:=by
 rw [wkz]
 simp only [wfk,wjo,(wqf h0),Sum.elim_inl,Sum.elim_inr]
def viz (u0:VL)(u1:Bool)(u2:VL):List vak→Nat→(((Bool×Int)⊕Int)→OR)→OR
 |[],i,k=>
  k (.inr (i:Int))
 |y::l,i,k=>
  vj1 y.1 (fun y1=>
   bif (!y1)then
    k (.inl (false,(i:Int)))
   else
    bif (decide ((y.2.1.size:Int)>(12:Int)))then
     k (.inl (false,(i:Int)))
    else
     bif y.2.2.1 then
      bif (!(va3 (y.2.1) (⟨#[]⟩:ByteArray)))then
       k (.inl (false,(i:Int)))
      else
       ve4 y.2.2.2 (1:Int) (9999:Int) (fun y2=>
        bif (!y2)then
         k (.inl (false,(i:Int)))
        else
         bif (decide ((i:Int)>(0:Int)))then
          if 0≤(IntKind.wrap .i64 ((i:Int)-(1:Int)))∧(IntKind.wrap .i64 ((i:Int)-(1:Int)))<(u0.length:Int)then
           vqx (rd (Ty.zero tVersion) u0 (IntKind.wrap .i64 ((i:Int)-(1:Int)))) y (fun y3=>
            bif (decide (y3≥(0:Int)))then
             k (.inl (false,(i:Int)))
            else
             viz u0 u1 u2 l (i+1) k)
          else none
         else
          viz u0 u1 u2 l (i+1) k)
     else
      ve4 y.2.2.2 (1:Int) (9999:Int) (fun y4=>
       bif (!y4)then
        k (.inl (false,(i:Int)))
       else
        bif (decide ((i:Int)>(0:Int)))then
         if 0≤(IntKind.wrap .i64 ((i:Int)-(1:Int)))∧(IntKind.wrap .i64 ((i:Int)-(1:Int)))<(u0.length:Int)then
          vqx (rd (Ty.zero tVersion) u0 (IntKind.wrap .i64 ((i:Int)-(1:Int)))) y (fun y5=>
           bif (decide (y5≥(0:Int)))then
            k (.inl (false,(i:Int)))
           else
            viz u0 u1 u2 l (i+1) k)
         else none
        else
         viz u0 u1 u2 l (i+1) k))
theorem wsn {u0 u1 u2}(h0:u2.length<9223372036854775807){K:(q15T⊕q15T)→OR}:∀(l:List vak) (i n:Nat),u2.drop i=l→l.length<n→vad vm4 n (u0,u1,u2,(u2.length:Int),(i:Int)) K=viz u0 u1 u2 l  i (Sum.elim (fun z=>K (.inl (u0,z.1,u2,(u2.length:Int),z.2))) (fun z=>K (.inr (u0,u1,u2,(u2.length:Int),z)))):=
 vbc h0 (fun i n a=>by intros;simp only [vad,vm4,viz,a,decide_false,cond_false,Sum.elim_inr,Sum.elim_inl])
  (fun y l i n a f=>by intros;simp only [vad,vm4,viz,a,decide_true,cond_true,and_self,if_true,Sum.elim_inl,Sum.elim_inr,f])
theorem wqr {u0 u1 u2}(h0:u2.length<9223372036854775807){K:(q15T⊕q15T)→OR}  : vad vm4 Fuel (u0,u1,u2,(u2.length:Int),(0:Int)) K=viz u0 u1 u2 u2  0 (Sum.elim (fun z=>K (.inl (u0,z.1,u2,(u2.length:Int),z.2))) (fun z=>K (.inr (u0,u1,u2,(u2.length:Int),z)))):=
 wsn h0 u2 0 Fuel rfl (vay h0)
def wof (a0:VL)(k:Bool→OR):OR:=
 viz a0 false a0 a0  0 (Sum.elim (fun z18=>
  k z18.1) (fun _=>
  k (decide ((a0.length:Int)≤(120:Int)))))
theorem w1m {a0:VL}(h0:a0.length<9223372036854775807){k:Bool→OR}:vw3 a0 k=wof a0 k:=by
 rw [wll]
 simp only [wcn,wof,(wqr h0),Sum.elim_inl,Sum.elim_inr]
def vmg (u0:WL)(u1:Bool)(u2:WL):List vbt→Nat→(((Bool×Int)⊕Int)→OR)→OR
 |[],i,k=>
  k (.inr (i:Int))
 |y::l,i,k=>
  vru y (fun y1=>
   bif (!y1)then
    k (.inl (false,(i:Int)))
   else
    bif (decide ((i:Int)>(0:Int)))then
     if 0≤(IntKind.wrap .i64 ((i:Int)-(1:Int)))∧(IntKind.wrap .i64 ((i:Int)-(1:Int)))<(u0.length:Int)then
      bif (!(vaf ((rd (Ty.zero tWrite) u0 (IntKind.wrap .i64 ((i:Int)-(1:Int)))).1) (y.1)))then
       k (.inl (false,(i:Int)))
      else
       vmg u0 u1 u2 l (i+1) k
     else none
    else
     vmg u0 u1 u2 l (i+1) k)
theorem wrn {u0 u1 u2}(h0:u2.length<9223372036854775807){K:(q23T⊕q23T)→OR}:∀(l:List vbt) (i n:Nat),u2.drop i=l→l.length<n→vad vmu n (u0,u1,u2,(u2.length:Int),(i:Int)) K=vmg u0 u1 u2 l  i (Sum.elim (fun z=>K (.inl (u0,z.1,u2,(u2.length:Int),z.2))) (fun z=>K (.inr (u0,u1,u2,(u2.length:Int),z)))):=
 vbc h0 (fun i n a=>by intros;simp only [vad,vmu,vmg,a,decide_false,cond_false,Sum.elim_inr,Sum.elim_inl])
  (fun y l i n a f=>by intros;simp only [vad,vmu,vmg,a,decide_true,cond_true,and_self,if_true,Sum.elim_inl,Sum.elim_inr,f])
theorem wqx {u0 u1 u2}(h0:u2.length<9223372036854775807){K:(q23T⊕q23T)→OR}  : vad vmu Fuel (u0,u1,u2,(u2.length:Int),(0:Int)) K=vmg u0 u1 u2 u2  0 (Sum.elim (fun z=>K (.inl (u0,z.1,u2,(u2.length:Int),z.2))) (fun z=>K (.inr (u0,u1,u2,(u2.length:Int),z)))):=
 wrn h0 u2 0 Fuel rfl (vay h0)
def wk8 (a0:WL)(k:Bool→OR):OR:=
 vmg a0 false a0 a0  0 (Sum.elim (fun z18=>
  k z18.1) (fun _=>
  k (decide ((a0.length:Int)≤(8:Int)))))
theorem w10 {a0:WL}(h0:a0.length<9223372036854775807){k:Bool→OR}:vwh a0 k=wk8 a0 k:=by
 rw [wld]
 simp only [wc3,wk8,(wqx h0),Sum.elim_inl,Sum.elim_inr]
def vdp (u0:Bool)(u1 u2:Int)(u3 u4:Int)(u5:RL)(u6:WL)(u7:Bool)(u8:ByteArray)(k:Bool→OR):OR:=
  bif (u2==(2:Int))then
   vj1 u8 (fun y1=>
    bif y1 then
     k true
    else
     bif (u2 != (2:Int))then
      k (va3 u8 (⟨#[]⟩:ByteArray))
     else
      k false)
  else
   bif (u2 != (2:Int))then
    k (va3 u8 (⟨#[]⟩:ByteArray))
   else
    k false
theorem vy9 {u0 u1} {u2 u3} {u4 u5} {u6 u7 u8}  {K:q40T→OR}:vdg (u0,u1,u2,u3,u4,u5,u6,u7,u8) K=vdp u0 u1 u2 u3 u4 u5 u6 u7 u8 (fun z=>K (z,u1,u2,u3,u4,u5,u6,u7,u8)):=by
 simp only [vdg,vdp,Sum.elim_inl,Sum.elim_inr]
def vfh (u0:Bool)(u1 u2:Int)(u3 u4:Int)(u5:RL)(u6:WL)(u7:Bool)(u8:ByteArray)(k:Bool→OR):OR:=
  bif (u2==(3:Int))then
   ve4 u4 (IntKind.wrap .i64 (u3+(1:Int))) (9999:Int) (fun y1=>
    bif (!y1)then
     k false
    else
     bif (u2 != (3:Int))then
      bif (u4 != (0:Int))then
       k false
      else
       vdp u0 u1 u2 u3 u4 u5 u6 u7 u8 (fun z2=>
        k z2)
     else
      vdp u0 u1 u2 u3 u4 u5 u6 u7 u8 (fun z3=>
       k z3))
  else
   bif (u2 != (3:Int))then
    bif (u4 != (0:Int))then
     k false
    else
     vdp u0 u1 u2 u3 u4 u5 u6 u7 u8 (fun z4=>
      k z4)
   else
    vdp u0 u1 u2 u3 u4 u5 u6 u7 u8 (fun z5=>
     k z5)
theorem vzp {u0 u1} {u2 u3} {u4 u5} {u6 u7 u8}  {K:q40T→OR}:vd8 (u0,u1,u2,u3,u4,u5,u6,u7,u8) K=vfh u0 u1 u2 u3 u4 u5 u6 u7 u8 (fun z=>K (z,u1,u2,u3,u4,u5,u6,u7,u8)):=by
 simp only [vd8,vfh,vy9,Sum.elim_inl,Sum.elim_inr]
def vm5 (u0:Bool)(u1:RL)(u4 u5:Int)(u6 u7:Int)(u8:RL)(u9:WL)(u10:Bool)(u11:ByteArray):List vb6→Nat→(((Bool×Int)⊕Int)→OR)→OR
 |[],i,k=>
  k (.inr (i:Int))
 |y::l,i,k=>
  vtz y (fun y1=>
   bif (!y1)then
    k (.inl (false,(i:Int)))
   else
    vm5 u0 u1 u4 u5 u6 u7 u8 u9 u10 u11 l (i+1) k)
theorem wr3 {u0 u1} {u4 u5} {u6 u7} {u8 u9} {u10 u11}(h0:u1.length<9223372036854775807){K:(q25T⊕q25T)→OR}:∀(l:List vb6) (i n:Nat),u1.drop i=l→l.length<n→vad vnz n (u0,u1,(u1.length:Int),(i:Int),u4,u5,u6,u7,u8,u9,u10,u11) K=vm5 u0 u1 u4 u5 u6 u7 u8 u9 u10 u11 l  i (Sum.elim (fun z=>K (.inl (z.1,u1,(u1.length:Int),z.2,u4,u5,u6,u7,u8,u9,u10,u11))) (fun z=>K (.inr (u0,u1,(u1.length:Int),z,u4,u5,u6,u7,u8,u9,u10,u11)))):=
 vbc h0 (fun i n a=>by intros;simp only [vad,vnz,vm5,a,decide_false,cond_false,Sum.elim_inr,Sum.elim_inl])
  (fun y l i n a f=>by intros;simp only [vad,vnz,vm5,a,decide_true,cond_true,and_self,if_true,Sum.elim_inl,Sum.elim_inr,f])
theorem wrk {u0 u1} {u4 u5} {u6 u7} {u8 u9} {u10 u11}(h0:u1.length<9223372036854775807){K:(q25T⊕q25T)→OR}  : vad vnz Fuel (u0,u1,(u1.length:Int),(0:Int),u4,u5,u6,u7,u8,u9,u10,u11) K=vm5 u0 u1 u4 u5 u6 u7 u8 u9 u10 u11 u1  0 (Sum.elim (fun z=>K (.inl (z.1,u1,(u1.length:Int),z.2,u4,u5,u6,u7,u8,u9,u10,u11))) (fun z=>K (.inr (u0,u1,(u1.length:Int),z,u4,u5,u6,u7,u8,u9,u10,u11)))):=
 wr3 h0 u1 0 Fuel rfl (vay h0)
def woo (a0:dTxn)(k:Bool→OR):OR:=
 vm5 false a0.2.2.2.2.1 a0.1 a0.2.1 a0.2.2.1 a0.2.2.2.1 a0.2.2.2.2.1 a0.2.2.2.2.2.1 a0.2.2.2.2.2.2.1 a0.2.2.2.2.2.2.2 a0.2.2.2.2.1  0 (Sum.elim (fun z18=>
  k z18.1) (fun _=>
  ve4 a0.1 (1:Int) (9999:Int) (fun y20=>
   bif (!y20)then
    k false
   else
    ve4 a0.2.1 (1:Int) (3:Int) (fun y21=>
     bif (!y21)then
      k false
     else
      ve4 a0.2.2.1 (0:Int) (9999:Int) (fun y22=>
       bif (!y22)then
        k false
       else
        bif (decide ((a0.2.2.2.2.1.length:Int)>(8:Int)))then
         k false
        else
         vwh a0.2.2.2.2.2.1 (fun y23=>
          bif (!y23)then
           k false
          else
           bif a0.2.2.2.2.2.2.1 then
            bif (a0.2.1==(1:Int))then
             k false
            else
             vfh false a0.1 a0.2.1 a0.2.2.1 a0.2.2.2.1 a0.2.2.2.2.1 a0.2.2.2.2.2.1 a0.2.2.2.2.2.2.1 a0.2.2.2.2.2.2.2 (fun z24=>
              k z24)
           else
            vfh false a0.1 a0.2.1 a0.2.2.1 a0.2.2.2.1 a0.2.2.2.2.1 a0.2.2.2.2.2.1 a0.2.2.2.2.2.2.1 a0.2.2.2.2.2.2.2 (fun z25=>
             k z25)))))))
theorem w2a {a0:dTxn}(h0:a0.2.2.2.2.1.length<9223372036854775807){k:Bool→OR}:vhk a0 k=woo a0 k:=by
 rw [won]
 simp only [wb5,woo,vzp,(wrk h0),Sum.elim_inl,Sum.elim_inr]
def vmh (u0 u2:(List TL)):List TL→Int→Nat→((Int×Int)→OR)→OR
 |[],s1,i,k=>
  k (s1,(i:Int))
 |y::l,s1,i,k=>
  bif (decide ((IntKind.wrap .i64 (s1+(y.length:Int)))<(0:Int)))then
   none
  else
   vmh u0 u2 l (IntKind.wrap .i64 (s1+(y.length:Int))) (i+1) k
theorem wrv {u0 u2}(h0:u2.length<9223372036854775807){K:q0T→OR}:∀(l:List TL) (i n:Nat),u2.drop i=l→l.length<n→∀(s1:Int),vad vn9 n (u0,s1,u2,(u2.length:Int),(i:Int)) K=vmh u0 u2 l s1 i (fun z=>K (u0,z.1,u2,(u2.length:Int),z.2)):=
 vbc h0 (fun i n a=>by intros;simp only [vad,vn9,vmh,a,decide_false,cond_false,Sum.elim_inr,Sum.elim_inl])
  (fun y l i n a f=>by intros;simp only [vad,vn9,vmh,a,decide_true,cond_true,and_self,if_true,Sum.elim_inl,Sum.elim_inr,f])
theorem wsy {u0 u2}(h0:u2.length<9223372036854775807){K:q0T→OR}{s1:Int}:vad vn9 Fuel (u0,s1,u2,(u2.length:Int),(0:Int)) K=vmh u0 u2 u2 s1 0 (fun z=>K (u0,z.1,u2,(u2.length:Int),z.2)):=
 wrv h0 u2 0 Fuel rfl (vay h0) s1
def wos (a0:(List TL))(k:(TL⊕TL)→OR):OR:=
 vmh a0 a0 a0 (0:Int) 0 (fun z18=>
  vsy z18.1 (Sum.elim (fun y19=>
   vad vfr Fuel (.inl (a0,(a0.length:Int),(0:Int),y19)) (Sum.elim (fun z20=>
    k (.inl z20.2.2.2)) (fun z21=>
    k (.inr z21.2.2.2)))) (fun y22=>
   vad vfr Fuel (.inr (a0,(a0.length:Int),(0:Int),y22)) (Sum.elim (fun z23=>
    k (.inl z23.2.2.2)) (fun z24=>
    k (.inr z24.2.2.2))))))
theorem wzo {a0:(List TL)}(h0:a0.length<9223372036854775807){k:(TL⊕TL)→OR}:vmn a0 k=wos a0 k:=by
 rw [wm8]
 simp only [wd1,wos,(wsy h0),Sum.elim_inl,Sum.elim_inr]
def vi6 (u0:TL)(u1:Int):List dTxn→Int→Int→Int→Int→RL→WL→Bool→ByteArray→Nat→((q73T⊕q71T)→OR)→OR
 |[],s4,s5,s6,s7,s8,s9,s10,s11,i,k=>
  k (.inr ((i:Int),s4,s5,s6,s7,s8,s9,s10,s11))
 |y::l,s4,s5,s6,s7,s8,s9,s10,s11,i,k=>
  v0x y s4 s5 s6 s7 s8 s9 s10 s11 (fun y1=>
   let y1h:=y1.2.2.2.2
   bif y1.1 then
    k (.inl ((i:Int),(i:Int),y1.2.1,y1.2.2.1,y1.2.2.2.1,y1h.1,y1h.2.1,y1h.2.2.1,y1h.2.2.2.1,y1h.2.2.2.2))
   else
    vi6 u0 u1 l y1.2.1 y1.2.2.1 y1.2.2.2.1 y1h.1 y1h.2.1 y1h.2.2.1 y1h.2.2.2.1 y1h.2.2.2.2 (i+1) k)
theorem wpi {u0 u1}(h0:u0.length<9223372036854775807){K:(q10T⊕q10T)→OR}:∀(l:List dTxn) (i n:Nat),u0.drop i=l→l.length<n→∀(s4:Int) (s5:Int) (s6:Int) (s7:Int) (s8:RL) (s9:WL) (s10:Bool) (s11:ByteArray),vad vjj n (u0,u1,(u0.length:Int),(i:Int),s4,s5,s6,s7,s8,s9,s10,s11) K=vi6 u0 u1 l s4 s5 s6 s7 s8 s9 s10 s11 i (Sum.elim (fun z=>K (.inl (u0,z.1,(u0.length:Int),z.2.1,z.2.2.1,z.2.2.2.1,z.2.2.2.2.1,z.2.2.2.2.2.1,z.2.2.2.2.2.2.1,z.2.2.2.2.2.2.2.1,z.2.2.2.2.2.2.2.2.1,z.2.2.2.2.2.2.2.2.2))) (fun z=>K (.inr (u0,u1,(u0.length:Int),z.1,z.2.1,z.2.2.1,z.2.2.2.1,z.2.2.2.2.1,z.2.2.2.2.2.1,z.2.2.2.2.2.2.1,z.2.2.2.2.2.2.2.1,z.2.2.2.2.2.2.2.2)))):=
 vbc h0 (fun i n a=>by intros;simp only [vad,vjj,vi6,a,decide_false,cond_false,Sum.elim_inr,Sum.elim_inl])
  (fun y l i n a f=>by intros;simp only [vad,vjj,vi6,a,decide_true,cond_true,and_self,if_true,Sum.elim_inl,Sum.elim_inr,f])
theorem wnc {u0 u1}(h0:u0.length<9223372036854775807){K:(q10T⊕q10T)→OR}{s4:Int}{s5:Int}{s6:Int}{s7:Int}{s8:RL}{s9:WL}{s10:Bool}{s11:ByteArray}:vad vjj Fuel (u0,u1,(u0.length:Int),(0:Int),s4,s5,s6,s7,s8,s9,s10,s11) K=vi6 u0 u1 u0 s4 s5 s6 s7 s8 s9 s10 s11 0 (Sum.elim (fun z=>K (.inl (u0,z.1,(u0.length:Int),z.2.1,z.2.2.1,z.2.2.2.1,z.2.2.2.2.1,z.2.2.2.2.2.1,z.2.2.2.2.2.2.1,z.2.2.2.2.2.2.2.1,z.2.2.2.2.2.2.2.2.1,z.2.2.2.2.2.2.2.2.2))) (fun z=>K (.inr (u0,u1,(u0.length:Int),z.1,z.2.1,z.2.2.1,z.2.2.2.1,z.2.2.2.2.1,z.2.2.2.2.2.1,z.2.2.2.2.2.2.1,z.2.2.2.2.2.2.2.1,z.2.2.2.2.2.2.2.2)))):=
 wpi h0 u0 0 Fuel rfl (vay h0) s4 s5 s6 s7 s8 s9 s10 s11
def v9b (a0:TL)(a1:Int)(a2:Int)(a3:Int)(a4:Int)(a5:RL)(a6:WL)(a7:Bool)(a8:ByteArray)(k:q71T→OR):OR:=
 vi6 a0 (0:Int) a0 a1 a2 a3 a4 a5 a6 a7 a8 0 (Sum.elim (fun z18=>
  let z18h:=z18.2.2.2.2
  k (z18.1,z18.2.2.1,z18.2.2.2.1,z18h.1,z18h.2.1,z18h.2.2.1,z18h.2.2.2.1,z18h.2.2.2.2.1,z18h.2.2.2.2.2)) (fun z19=>
  let z19h:=z19.2.2.2.2
  k ((-1:Int),z19.2.1,z19.2.2.1,z19.2.2.2.1,z19h.1,z19h.2.1,z19h.2.2.1,z19h.2.2.2.1,z19h.2.2.2.2)))
theorem wws {a0:TL}{a1:Int}{a2:Int}{a3:Int}{a4:Int}{a5:RL}{a6:WL}{a7:Bool}{a8:ByteArray}(h0:a0.length<9223372036854775807){k:q71T→OR}:vu3 a0 a1 a2 a3 a4 a5 a6 a7 a8 k=v9b a0 a1 a2 a3 a4 a5 a6 a7 a8 k:=by
 rw [wah]
 simp only [v3q,v9b,(wnc h0),Sum.elim_inl,Sum.elim_inr]
def vmy (u0:TL)(u1:Int)(u2:Bool)(u3:TL):List dTxn→Nat→(((Bool×Int)⊕Int)→OR)→OR
 |[],i,k=>
  k (.inr (i:Int))
 |y::l,i,k=>
  bif (decide (y.1≥u1))then
   k (.inl (false,(i:Int)))
  else
   if 0≤(0:Int)∧(0:Int)≤(i:Int)∧(i:Int)≤(u0.length:Int)then
    v2m ((u0.take (i:Int).toNat).drop (0:Int).toNat) y.1 y.2.1 y.2.2.1 y.2.2.2.1 y.2.2.2.2.1 y.2.2.2.2.2.1 y.2.2.2.2.2.2.1 y.2.2.2.2.2.2.2 (fun y1=>
     bif y1.1 then
      k (.inl (false,(i:Int)))
     else
      vmy u0 u1 u2 u3 l (i+1) k)
   else none
theorem wsa {u0 u1} {u2 u3}(h0:u3.length<9223372036854775807){K:(q3T⊕q3T)→OR}:∀(l:List dTxn) (i n:Nat),u3.drop i=l→l.length<n→vad vm0 n (u0,u1,u2,u3,(u3.length:Int),(i:Int)) K=vmy u0 u1 u2 u3 l  i (Sum.elim (fun z=>K (.inl (u0,u1,z.1,u3,(u3.length:Int),z.2))) (fun z=>K (.inr (u0,u1,u2,u3,(u3.length:Int),z)))):=
 vbc h0 (fun i n a=>by intros;simp only [vad,vm0,vmy,a,decide_false,cond_false,Sum.elim_inr,Sum.elim_inl])
  (fun y l i n a f=>by intros;simp only [vad,vm0,vmy,a,decide_true,cond_true,and_self,if_true,Sum.elim_inl,Sum.elim_inr,f])
theorem wsb {u0 u1} {u2 u3}(h0:u3.length<9223372036854775807){K:(q3T⊕q3T)→OR}  : vad vm0 Fuel (u0,u1,u2,u3,(u3.length:Int),(0:Int)) K=vmy u0 u1 u2 u3 u3  0 (Sum.elim (fun z=>K (.inl (u0,u1,z.1,u3,(u3.length:Int),z.2))) (fun z=>K (.inr (u0,u1,u2,u3,(u3.length:Int),z)))):=
 wsa h0 u3 0 Fuel rfl (vay h0)
def wl3 (a0:TL)(a1:Int)(k:Bool→OR):OR:=
 vmy a0 a1 false a0 a0  0 (Sum.elim (fun z18=>
  k z18.1) (fun _=>
  k true))
theorem w14 {a0:TL}{a1:Int}(h0:a0.length<9223372036854775807){k:Bool→OR}:vlj a0 a1 k=wl3 a0 a1 k:=by
 rw [wj8]
 simp only [wc1,wl3,(wsb h0),Sum.elim_inl,Sum.elim_inr]
def vnl (u0:Bool)(u1 u4:VL)(u5 u6:TL)(u7 u8:Int):List vak→Nat→(((Bool×Int)⊕Int)→OR)→OR
 |[],i,k=>
  k (.inr (i:Int))
 |y::l,i,k=>
  bif (decide (y.2.2.2>u7))then
   k (.inl (false,(i:Int)))
  else
   vnl u0 u1 u4 u5 u6 u7 u8 l (i+1) k
theorem wqy {u0 u1} {u4 u5} {u6 u7 u8}(h0:u1.length<9223372036854775807){K:(q31T⊕q31T)→OR}:∀(l:List vak) (i n:Nat),u1.drop i=l→l.length<n→vad vms n (u0,u1,(u1.length:Int),(i:Int),u4,u5,u6,u7,u8) K=vnl u0 u1 u4 u5 u6 u7 u8 l  i (Sum.elim (fun z=>K (.inl (z.1,u1,(u1.length:Int),z.2,u4,u5,u6,u7,u8))) (fun z=>K (.inr (u0,u1,(u1.length:Int),z,u4,u5,u6,u7,u8)))):=
 vbc h0 (fun i n a=>by intros;simp only [vad,vms,vnl,a,decide_false,cond_false,Sum.elim_inr,Sum.elim_inl])
  (fun y l i n a f=>by intros;simp only [vad,vms,vnl,a,decide_true,cond_true,and_self,if_true,Sum.elim_inl,Sum.elim_inr,f])
theorem ws4 {u0 u1} {u4 u5} {u6 u7 u8}(h0:u1.length<9223372036854775807){K:(q31T⊕q31T)→OR}  : vad vms Fuel (u0,u1,(u1.length:Int),(0:Int),u4,u5,u6,u7,u8) K=vnl u0 u1 u4 u5 u6 u7 u8 u1  0 (Sum.elim (fun z=>K (.inl (z.1,u1,(u1.length:Int),z.2,u4,u5,u6,u7,u8))) (fun z=>K (.inr (u0,u1,(u1.length:Int),z,u4,u5,u6,u7,u8)))):=
 wqy h0 u1 0 Fuel rfl (vay h0)
def vme (u0:Bool)(u1:TL)(u4:VL)(u5 u6:TL)(u7 u8:Int):List dTxn→Nat→(((Bool×Int)⊕Int)→OR)→OR
 |[],i,k=>
  k (.inr (i:Int))
 |y::l,i,k=>
  vhk y (fun y1=>
   bif (!y1)then
    k (.inl (false,(i:Int)))
   else
    vo4 y (fun y2=>
     bif (!y2)then
      k (.inl (false,(i:Int)))
     else
      bif (decide (y.2.2.2.1>u7))then
       k (.inl (false,(i:Int)))
      else
       bif (decide ((i:Int)>(0:Int)))then
        if 0≤(IntKind.wrap .i64 ((i:Int)-(1:Int)))∧(IntKind.wrap .i64 ((i:Int)-(1:Int)))<(u5.length:Int)then
         bif (decide ((rd (Ty.zero tTxn) u5 (IntKind.wrap .i64 ((i:Int)-(1:Int)))).2.2.2.1≥y.2.2.2.1))then
          k (.inl (false,(i:Int)))
         else
          vme u0 u1 u4 u5 u6 u7 u8 l (i+1) k
        else none
       else
        vme u0 u1 u4 u5 u6 u7 u8 l (i+1) k))
theorem wqw {u0 u1} {u4 u5} {u6 u7 u8}(h0:u1.length<9223372036854775807){K:(q27T⊕q27T)→OR}:∀(l:List dTxn) (i n:Nat),u1.drop i=l→l.length<n→vad vnu n (u0,u1,(u1.length:Int),(i:Int),u4,u5,u6,u7,u8) K=vme u0 u1 u4 u5 u6 u7 u8 l  i (Sum.elim (fun z=>K (.inl (z.1,u1,(u1.length:Int),z.2,u4,u5,u6,u7,u8))) (fun z=>K (.inr (u0,u1,(u1.length:Int),z,u4,u5,u6,u7,u8)))):=
 vbc h0 (fun i n a=>by intros;simp only [vad,vnu,vme,a,decide_false,cond_false,Sum.elim_inr,Sum.elim_inl])
  (fun y l i n a f=>by intros;simp only [vad,vnu,vme,a,decide_true,cond_true,and_self,if_true,Sum.elim_inl,Sum.elim_inr,f])
theorem wqn {u0 u1} {u4 u5} {u6 u7 u8}(h0:u1.length<9223372036854775807){K:(q27T⊕q27T)→OR}  : vad vnu Fuel (u0,u1,(u1.length:Int),(0:Int),u4,u5,u6,u7,u8) K=vme u0 u1 u4 u5 u6 u7 u8 u1  0 (Sum.elim (fun z=>K (.inl (z.1,u1,(u1.length:Int),z.2,u4,u5,u6,u7,u8))) (fun z=>K (.inr (u0,u1,(u1.length:Int),z,u4,u5,u6,u7,u8)))):=
 wqw h0 u1 0 Fuel rfl (vay h0)
def vl9 (u0:Bool)(u1:TL)(u4:VL)(u5 u6:TL)(u7 u8:Int):List dTxn→Nat→(((Bool×Int)⊕Int)→OR)→OR
 |[],i,k=>
  k (.inr (i:Int))
 |y::l,i,k=>
  vhk y (fun y1=>
   bif (!y1)then
    k (.inl (false,(i:Int)))
   else
    vla y (fun y2=>
     bif (!y2)then
      k (.inl (false,(i:Int)))
     else
      bif (decide (y.2.2.1>u7))then
       k (.inl (false,(i:Int)))
      else
       bif (decide ((i:Int)>(0:Int)))then
        if 0≤(IntKind.wrap .i64 ((i:Int)-(1:Int)))∧(IntKind.wrap .i64 ((i:Int)-(1:Int)))<(u6.length:Int)then
         bif (!(vaf ((rd (Ty.zero tTxn) u6 (IntKind.wrap .i64 ((i:Int)-(1:Int)))).2.2.2.2.2.2.2) (y.2.2.2.2.2.2.2)))then
          k (.inl (false,(i:Int)))
         else
          vl9 u0 u1 u4 u5 u6 u7 u8 l (i+1) k
        else none
       else
        vl9 u0 u1 u4 u5 u6 u7 u8 l (i+1) k))
theorem wr4 {u0 u1} {u4 u5} {u6 u7 u8}(h0:u1.length<9223372036854775807){K:(q27T⊕q27T)→OR}:∀(l:List dTxn) (i n:Nat),u1.drop i=l→l.length<n→vad vnc n (u0,u1,(u1.length:Int),(i:Int),u4,u5,u6,u7,u8) K=vl9 u0 u1 u4 u5 u6 u7 u8 l  i (Sum.elim (fun z=>K (.inl (z.1,u1,(u1.length:Int),z.2,u4,u5,u6,u7,u8))) (fun z=>K (.inr (u0,u1,(u1.length:Int),z,u4,u5,u6,u7,u8)))):=
 vbc h0 (fun i n a=>by intros;simp only [vad,vnc,vl9,a,decide_false,cond_false,Sum.elim_inr,Sum.elim_inl])
  (fun y l i n a f=>by intros;simp only [vad,vnc,vl9,a,decide_true,cond_true,and_self,if_true,Sum.elim_inl,Sum.elim_inr,f])
theorem wqe {u0 u1} {u4 u5} {u6 u7 u8}(h0:u1.length<9223372036854775807){K:(q27T⊕q27T)→OR}  : vad vnc Fuel (u0,u1,(u1.length:Int),(0:Int),u4,u5,u6,u7,u8) K=vl9 u0 u1 u4 u5 u6 u7 u8 u1  0 (Sum.elim (fun z=>K (.inl (z.1,u1,(u1.length:Int),z.2,u4,u5,u6,u7,u8))) (fun z=>K (.inr (u0,u1,(u1.length:Int),z,u4,u5,u6,u7,u8)))):=
 wr4 h0 u1 0 Fuel rfl (vay h0)
def vg7 (u0:Bool)(u1:VL)(u2 u3:TL)(u4 u5:Int)(k:Bool→OR):OR:=
  vnl u0 u1 u1 u2 u3 u4 u5 u1  0 (Sum.elim (fun z1=>
   k z1.1) (fun _=>
   vme u0 u2 u1 u2 u3 u4 u5 u2  0 (Sum.elim (fun z3=>
    k z3.1) (fun _=>
    vl9 u0 u3 u1 u2 u3 u4 u5 u3  0 (Sum.elim (fun z5=>
     k z5.1) (fun _=>
     vmn [u2,u3] (Sum.elim (fun y7=>
      vlj y7 u5 (fun y8=>
       k y8)) (fun y9=>
      vlj y9 u5 (fun y10=>
       k y10)))))))))
theorem vz6 {u0 u1} {u2 u3} {u4 u5}(h0:u3.length<9223372036854775807)(h1:u2.length<9223372036854775807)(h2:u1.length<9223372036854775807){K:q30T→OR}:vey (u0,u1,u2,u3,u4,u5) K=vg7 u0 u1 u2 u3 u4 u5 (fun z=>K (z,u1,u2,u3,u4,u5)):=by
 simp only [vey,vg7,(wqe h0),(wqn h1),(ws4 h2),Sum.elim_inl,Sum.elim_inr]
def wpw (a0:vh8)(k:Bool→OR):OR:=
 vw3 a0.1 (fun y18=>
  bif (!y18)then
   k false
  else
   bif (decide ((a0.2.1.length:Int)>(12:Int)))then
    k false
   else
    bif (decide ((a0.2.2.1.length:Int)>(3:Int)))then
     k false
    else
     ve4 a0.2.2.2.1 (0:Int) (9999:Int) (fun y19=>
      bif (!y19)then
       k false
      else
       ve4 a0.2.2.2.2 (1:Int) (9999:Int) (fun y20=>
        bif (!y20)then
         k false
        else
         vg7 false a0.1 a0.2.1 a0.2.2.1 a0.2.2.2.1 a0.2.2.2.2 (fun z21=>
          k z21))))
theorem w1u {a0:vh8}(h0:a0.2.2.1.length<9223372036854775807)(h1:a0.2.1.length<9223372036854775807)(h2:a0.1.length<9223372036854775807){k:Bool→OR}:vv5 a0 k=wpw a0 k:=by
 rw [wkh]
 simp only [wb7,wpw,(vz6 h0 h1 h2),Sum.elim_inl,Sum.elim_inr]
def vlt (u0:Bool)(u1:TL)(u4:VL)(u5 u6:TL)(u7 u8:Int)(u9:TL):List dTxn→Nat→(((Bool×Int)⊕Int)→OR)→OR
 |[],i,k=>
  k (.inr (i:Int))
 |y::l,i,k=>
  vhk y (fun y1=>
   bif (!y1)then
    k (.inl (false,(i:Int)))
   else
    bif (y.2.1 != (1:Int))then
     k (.inl (false,(i:Int)))
    else
     bif (decide (y.2.2.1>u7))then
      k (.inl (false,(i:Int)))
     else
      bif (decide ((i:Int)>(0:Int)))then
       if 0≤(IntKind.wrap .i64 ((i:Int)-(1:Int)))∧(IntKind.wrap .i64 ((i:Int)-(1:Int)))<(u9.length:Int)then
        bif (decide ((rd (Ty.zero tTxn) u9 (IntKind.wrap .i64 ((i:Int)-(1:Int)))).1≥y.1))then
         k (.inl (false,(i:Int)))
        else
         vlt u0 u1 u4 u5 u6 u7 u8 u9 l (i+1) k
       else none
      else
       vlt u0 u1 u4 u5 u6 u7 u8 u9 l (i+1) k)
theorem wra {u0 u1} {u4 u5} {u6 u7} {u8 u9}(h0:u1.length<9223372036854775807){K:(q26T⊕q26T)→OR}:∀(l:List dTxn) (i n:Nat),u1.drop i=l→l.length<n→vad vnk n (u0,u1,(u1.length:Int),(i:Int),u4,u5,u6,u7,u8,u9) K=vlt u0 u1 u4 u5 u6 u7 u8 u9 l  i (Sum.elim (fun z=>K (.inl (z.1,u1,(u1.length:Int),z.2,u4,u5,u6,u7,u8,u9))) (fun z=>K (.inr (u0,u1,(u1.length:Int),z,u4,u5,u6,u7,u8,u9)))):=
 vbc h0 (fun i n a=>by intros;simp only [vad,vnk,vlt,a,decide_false,cond_false,Sum.elim_inr,Sum.elim_inl])
  (fun y l i n a f=>by intros;simp only [vad,vnk,vlt,a,decide_true,cond_true,and_self,if_true,Sum.elim_inl,Sum.elim_inr,f])
theorem wsl {u0 u1} {u4 u5} {u6 u7} {u8 u9}(h0:u1.length<9223372036854775807){K:(q26T⊕q26T)→OR}  : vad vnk Fuel (u0,u1,(u1.length:Int),(0:Int),u4,u5,u6,u7,u8,u9) K=vlt u0 u1 u4 u5 u6 u7 u8 u9 u1  0 (Sum.elim (fun z=>K (.inl (z.1,u1,(u1.length:Int),z.2,u4,u5,u6,u7,u8,u9))) (fun z=>K (.inr (u0,u1,(u1.length:Int),z,u4,u5,u6,u7,u8,u9)))):=
 wra h0 u1 0 Fuel rfl (vay h0)
def vfj (u0:Bool)(u1:VL)(u2 u3:TL)(u4 u5:Int)(u6:TL)(k:Bool→OR):OR:=
  vlt u0 u6 u1 u2 u3 u4 u5 u6 u6  0 (Sum.elim (fun z1=>
   k z1.1) (fun _=>
   k true))
theorem vzv {u0 u1} {u2 u3} {u4 u5 u6}(h0:u6.length<9223372036854775807){K:q29T→OR}:vd3 (u0,u1,u2,u3,u4,u5,u6) K=vfj u0 u1 u2 u3 u4 u5 u6 (fun z=>K (z,u1,u2,u3,u4,u5,u6)):=by
 simp only [vd3,vfj,(wsl h0),Sum.elim_inl,Sum.elim_inr]
def wou (a0:vbs)(k:Bool→OR):OR:=
 vv5 a0.1 (fun y18=>
  bif (!y18)then
   k false
  else
   bif (decide ((a0.2.length:Int)>(4:Int)))then
    k false
   else
    vmn [a0.1.2.1,a0.1.2.2.1,a0.2] (Sum.elim (fun y19=>
     vlj y19 a0.1.2.2.2.2 (fun y20=>
      bif (!y20)then
       k false
      else
       vfj false a0.1.1 a0.1.2.1 a0.1.2.2.1 a0.1.2.2.2.1 a0.1.2.2.2.2 a0.2 (fun z21=>
        k z21))) (fun y22=>
     vlj y22 a0.1.2.2.2.2 (fun y23=>
      bif (!y23)then
       k false
      else
       vfj false a0.1.1 a0.1.2.1 a0.1.2.2.1 a0.1.2.2.2.1 a0.1.2.2.2.2 a0.2 (fun z24=>
        k z24)))))
theorem w1q {a0:vbs}(h0:a0.2.length<9223372036854775807){k:Bool→OR}:vuc a0 k=wou a0 k:=by
 rw [wox]
 simp only [weh,wou,(vzv h0),Sum.elim_inl,Sum.elim_inr]
def vh9 (u0:TL)(u1:Int):List dTxn→Int→Nat→(((Int×Int×Int)⊕(Int×Int))→OR)→OR
 |[],s4,i,k=>
  k (.inr ((i:Int),s4))
 |y::l,s4,i,k=>
  v2b y s4 (fun y1=>
   bif y1.1 then
    k (.inl ((i:Int),(i:Int),y1.2))
   else
    vh9 u0 u1 l y1.2 (i+1) k)
theorem wqb {u0 u1}(h0:u0.length<9223372036854775807){K:(q12T⊕q12T)→OR}:∀(l:List dTxn) (i n:Nat),u0.drop i=l→l.length<n→∀(s4:Int),vad vi5 n (u0,u1,(u0.length:Int),(i:Int),s4) K=vh9 u0 u1 l s4 i (Sum.elim (fun z=>K (.inl (u0,z.1,(u0.length:Int),z.2.1,z.2.2))) (fun z=>K (.inr (u0,u1,(u0.length:Int),z.1,z.2)))):=
 vbc h0 (fun i n a=>by intros;simp only [vad,vi5,vh9,a,decide_false,cond_false,Sum.elim_inr,Sum.elim_inl])
  (fun y l i n a f=>by intros;simp only [vad,vi5,vh9,a,decide_true,cond_true,and_self,if_true,Sum.elim_inl,Sum.elim_inr,f])
theorem woj {u0 u1}(h0:u0.length<9223372036854775807){K:(q12T⊕q12T)→OR}{s4:Int}:vad vi5 Fuel (u0,u1,(u0.length:Int),(0:Int),s4) K=vh9 u0 u1 u0 s4 0 (Sum.elim (fun z=>K (.inl (u0,z.1,(u0.length:Int),z.2.1,z.2.2))) (fun z=>K (.inr (u0,u1,(u0.length:Int),z.1,z.2)))):=
 wqb h0 u0 0 Fuel rfl (vay h0) s4
def wa7 (a0:TL)(a1:Int)(k:(Int×Int)→OR):OR:=
 vh9 a0 (0:Int) a0 a1 0 (Sum.elim (fun z18=>
  k (z18.1,z18.2.2)) (fun z19=>
  k ((-1:Int),z19.2)))
theorem wwj {a0:TL}{a1:Int}(h0:a0.length<9223372036854775807){k:(Int×Int)→OR}:vve a0 a1 k=wa7 a0 a1 k:=by
 rw [v95]
 simp only [v4s,wa7,(woj h0),Sum.elim_inl,Sum.elim_inr]
def vj4 (u0:RL)(u1:Int)(u4 u5:ByteArray):List vb6→Nat→(((Int×Int)⊕Int)→OR)→OR
 |[],i,k=>
  k (.inr (i:Int))
 |y::l,i,k=>
  bif (Ty.eqB tRange (u4,u5) y)then
   k (.inl ((i:Int),(i:Int)))
  else
   vj4 u0 u1 u4 u5 l (i+1) k
theorem woe {u0 u1} {u4 u5}(h0:u0.length<9223372036854775807){K:(q2T⊕q2T)→OR}:∀(l:List vb6) (i n:Nat),u0.drop i=l→l.length<n→vad vjm n (u0,u1,(u0.length:Int),(i:Int),u4,u5) K=vj4 u0 u1 u4 u5 l  i (Sum.elim (fun z=>K (.inl (u0,z.1,(u0.length:Int),z.2,u4,u5))) (fun z=>K (.inr (u0,u1,(u0.length:Int),z,u4,u5)))):=
 vbc h0 (fun i n a=>by intros;simp only [vad,vjm,vj4,a,decide_false,cond_false,Sum.elim_inr,Sum.elim_inl])
  (fun y l i n a f=>by intros;simp only [vad,vjm,vj4,a,decide_true,cond_true,and_self,if_true,Sum.elim_inl,Sum.elim_inr,f])
theorem wnv {u0 u1} {u4 u5}(h0:u0.length<9223372036854775807){K:(q2T⊕q2T)→OR}  : vad vjm Fuel (u0,u1,(u0.length:Int),(0:Int),u4,u5) K=vj4 u0 u1 u4 u5 u0  0 (Sum.elim (fun z=>K (.inl (u0,z.1,(u0.length:Int),z.2,u4,u5))) (fun z=>K (.inr (u0,u1,(u0.length:Int),z,u4,u5)))):=
 woe h0 u0 0 Fuel rfl (vay h0)
def v8k (a0:RL)(a1:vb6)(k:Int→OR):OR:=
 vj4 a0 (0:Int) a1.1 a1.2 a0  0 (Sum.elim (fun z18=>
  k z18.1) (fun _=>
  k (-1:Int)))
theorem wym {a0:RL}{a1:vb6}(h0:a0.length<9223372036854775807){k:Int→OR}:vyh a0 a1 k=v8k a0 a1 k:=by
 rw [wbh]
 simp only [v3o,v8k,(wnv h0),Sum.elim_inl,Sum.elim_inr]
def vg5 (u0:Bool)(u1 u2:Int)(u3 u4:Int)(u5:RL)(u6:WL)(u7:Bool)(u8 u9 u10:ByteArray)(u11 u12:Int)(u13 u14:Int)(u15:Bool)(u16:ByteArray)(u17 u18:Int)(u19 u20:Int)(u21:Bool)(u22:ByteArray)(u23:RL)(u24:WL)(u25:RL)(u26:WL)(k:(Bool×RL)→OR):OR:=
  vsm u5 (u9,u10) (fun y1=>
   bif y1 then
    k (true,u25)
   else
    bif ((u5.length:Int)==(8:Int))then
     k (false,u25)
    else
     if u25.length+[(u9,u10)].length≤VE.maxLen then
      k (true,(u25++[(u9,u10)]))
     else none)
theorem vz7 {u0 u1} {u2 u3} {u4 u5} {u6 u7} {u8 u9} {u10 u11} {u12 u13} {u14 u15} {u16 u17} {u18 u19} {u20 u21} {u22 u23} {u24 u25 u26}  {K:q38T→OR}:ves (u0,u1,u2,u3,u4,u5,u6,u7,u8,u9,u10,u11,u12,u13,u14,u15,u16,u17,u18,u19,u20,u21,u22,u23,u24,u25,u26) K=vg5 u0 u1 u2 u3 u4 u5 u6 u7 u8 u9 u10 u11 u12 u13 u14 u15 u16 u17 u18 u19 u20 u21 u22 u23 u24 u25 u26 (fun z=>K (z.1,u1,u2,u3,u4,u5,u6,u7,u8,u9,u10,u17,u18,u19,u20,u21,u22,u17,u18,u19,u20,u21,u22,z.2,u26)):=by
 simp only [ves,vg5,Sum.elim_inl,Sum.elim_inr]
def woa (a0:dTxn)(a1:vb6)(k:q66T→OR):OR:=
 vhc a0 (fun y18=>
  let y18h:=y18.2.2.2.2
  vhk a0 (fun y19=>
   bif (!y19)then
    k (y18.1,y18.2.1,y18.2.2.1,y18.2.2.2.1,y18h.1,y18h.2.1,false,y18h.2.2.1,y18h.2.2.2)
   else
    bif (a0.2.1 != (1:Int))then
     k (y18.1,y18.2.1,y18.2.2.1,y18.2.2.2.1,y18h.1,y18h.2.1,false,y18h.2.2.1,y18h.2.2.2)
    else
     vtz a1 (fun y20=>
      bif (!y20)then
       k (y18.1,y18.2.1,y18.2.2.1,y18.2.2.2.1,y18h.1,y18h.2.1,false,y18h.2.2.1,y18h.2.2.2)
      else
       vg5 false a0.1 a0.2.1 a0.2.2.1 a0.2.2.2.1 a0.2.2.2.2.1 a0.2.2.2.2.2.1 a0.2.2.2.2.2.2.1 a0.2.2.2.2.2.2.2 a1.1 a1.2 (0:Int) (0:Int) (0:Int) (0:Int) false (⟨#[]⟩:ByteArray) y18.1 y18.2.1 y18.2.2.1 y18.2.2.2.1 y18h.1 y18h.2.1 ([]:List vb6) ([]:List vbt) y18h.2.2.1 y18h.2.2.2 (fun z21=>
        k (y18.1,y18.2.1,y18.2.2.1,y18.2.2.2.1,y18h.1,y18h.2.1,z21.1,z21.2,y18h.2.2.2)))))
theorem w1k {a0:dTxn}{a1:vb6}  {k:q66T→OR}:v0v a0 a1 k=woa a0 a1 k:=by
 rw [wl9]
 simp only [wek,woa,vz7,Sum.elim_inl,Sum.elim_inr]
def vh0 (u0:WL)(u1:Int):List vbt→ByteArray→Nat→(((Int×Int×ByteArray)⊕(Int×ByteArray))→OR)→OR
 |[],s4,i,k=>
  k (.inr ((i:Int),s4))
 |y::l,s4,i,k=>
  v2d y s4 (fun y1=>
   bif y1.1 then
    k (.inl ((i:Int),(i:Int),y1.2))
   else
    vh0 u0 u1 l y1.2 (i+1) k)
theorem wo9 {u0 u1}(h0:u0.length<9223372036854775807){K:(q24T⊕q24T)→OR}:∀(l:List vbt) (i n:Nat),u0.drop i=l→l.length<n→∀(s4:ByteArray),vad vj2 n (u0,u1,(u0.length:Int),(i:Int),s4) K=vh0 u0 u1 l s4 i (Sum.elim (fun z=>K (.inl (u0,z.1,(u0.length:Int),z.2.1,z.2.2))) (fun z=>K (.inr (u0,u1,(u0.length:Int),z.1,z.2)))):=
 vbc h0 (fun i n a=>by intros;simp only [vad,vj2,vh0,a,decide_false,cond_false,Sum.elim_inr,Sum.elim_inl])
  (fun y l i n a f=>by intros;simp only [vad,vj2,vh0,a,decide_true,cond_true,and_self,if_true,Sum.elim_inl,Sum.elim_inr,f])
theorem wo4 {u0 u1}(h0:u0.length<9223372036854775807){K:(q24T⊕q24T)→OR}{s4:ByteArray}:vad vj2 Fuel (u0,u1,(u0.length:Int),(0:Int),s4) K=vh0 u0 u1 u0 s4 0 (Sum.elim (fun z=>K (.inl (u0,z.1,(u0.length:Int),z.2.1,z.2.2))) (fun z=>K (.inr (u0,u1,(u0.length:Int),z.1,z.2)))):=
 wo9 h0 u0 0 Fuel rfl (vay h0) s4
def v9k (a0:WL)(a1:ByteArray)(k:(Int×ByteArray)→OR):OR:=
 vh0 a0 (0:Int) a0 a1 0 (Sum.elim (fun z18=>
  k (z18.1,z18.2.2)) (fun z19=>
  k ((-1:Int),z19.2)))
theorem wyi {a0:WL}{a1:ByteArray}(h0:a0.length<9223372036854775807){k:(Int×ByteArray)→OR}:vyi a0 a1 k=v9k a0 a1 k:=by
 rw [waf]
 simp only [v5r,v9k,(wo4 h0),Sum.elim_inl,Sum.elim_inr]
def vhr (u0:VL)(u1:ByteArray)(u2:Int)(u4:VL):List vak→Int→Nat→((Int×Int)→OR)→OR
 |[],s3,i,k=>
  k (s3,(i:Int))
 |y::l,s3,i,k=>
  bif (va3 (y.1) u1)then
   bif (decide (y.2.2.2≤u2))then
    bif (decide (s3<(0:Int)))then
     vhr u0 u1 u2 u4 l (i:Int) (i+1) k
    else
     if 0≤s3∧s3<(u0.length:Int)then
      bif (decide (y.2.2.2>(rd (Ty.zero tVersion) u0 s3).2.2.2))then
       vhr u0 u1 u2 u4 l (i:Int) (i+1) k
      else
       vhr u0 u1 u2 u4 l s3 (i+1) k
     else none
   else
    vhr u0 u1 u2 u4 l s3 (i+1) k
  else
   vhr u0 u1 u2 u4 l s3 (i+1) k
theorem wre {u0 u1} {u2 u4}(h0:u4.length<9223372036854775807){K:q16T→OR}:∀(l:List vak) (i n:Nat),u4.drop i=l→l.length<n→∀(s3:Int),vad vn6 n (u0,u1,u2,s3,u4,(u4.length:Int),(i:Int)) K=vhr u0 u1 u2 u4 l s3 i (fun z=>K (u0,u1,u2,z.1,u4,(u4.length:Int),z.2)):=
 vbc h0 (fun i n a=>by intros;simp only [vad,vn6,vhr,a,decide_false,cond_false,Sum.elim_inr,Sum.elim_inl])
  (fun y l i n a f=>by intros;simp only [vad,vn6,vhr,a,decide_true,cond_true,and_self,if_true,Sum.elim_inl,Sum.elim_inr,f])
theorem wqg {u0 u1} {u2 u4}(h0:u4.length<9223372036854775807){K:q16T→OR}{s3:Int}:vad vn6 Fuel (u0,u1,u2,s3,u4,(u4.length:Int),(0:Int)) K=vhr u0 u1 u2 u4 u4 s3 0 (fun z=>K (u0,u1,u2,z.1,u4,(u4.length:Int),z.2)):=
 wre h0 u4 0 Fuel rfl (vay h0) s3
def wl8 (a0:VL)(a1:ByteArray)(a2:Int)(k:Int→OR):OR:=
 vhr a0 a1 a2 a0 a0 (-1:Int) 0 (fun z18=>
  k z18.1)
theorem wz6 {a0:VL}{a1:ByteArray}{a2:Int}(h0:a0.length<9223372036854775807){k:Int→OR}:vtm a0 a1 a2 k=wl8 a0 a1 a2 k:=by
 rw [wol]
 simp only [wes,wl8,(wqg h0),Sum.elim_inl,Sum.elim_inr]
def vg8 (u0:Bool)(u1 u2:Int)(u3 u4:Int)(u5:RL)(u6:WL)(u7:Bool)(u8 u9 u10:ByteArray)(u11:Bool)(u12 u13:Int)(u14 u15:Int)(u16:Bool)(u17:ByteArray)(u18 u19:Int)(u20 u21:Int)(u22:Bool)(u23:ByteArray)(u24:RL)(u25:WL)(u26:RL)(u27:WL)(k:((Bool×WL)⊕(Bool×Int×Int×Int×Int×Bool×ByteArray×RL×WL×WL))→OR):OR:=
  v1s u6 (u9,(u10,u11)) (fun y1=>
   vhk (u18,(u19,(u20,(u21,(u26,(y1,(u22,u23))))))) (fun y2=>
    bif (!y2)then
     vhc (u1,(u2,(u3,(u4,(u5,(u6,(u7,u8))))))) (fun y3=>
      k (.inr (false,y3.1,y3.2.1,y3.2.2.1,y3.2.2.2.1,y3.2.2.2.2.1,y3.2.2.2.2.2.1,y3.2.2.2.2.2.2.1,y3.2.2.2.2.2.2.2,y1)))
    else
     k (.inl (true,y1))))
theorem vzs {u0 u1} {u2 u3} {u4 u5} {u6 u7} {u8 u9} {u10 u11} {u12 u13} {u14 u15} {u16 u17} {u18 u19} {u20 u21} {u22 u23} {u24 u25} {u26 u27}  {K:(q36T⊕q35T)→OR}:vev (u0,u1,u2,u3,u4,u5,u6,u7,u8,u9,u10,u11,u12,u13,u14,u15,u16,u17,u18,u19,u20,u21,u22,u23,u24,u25,u26,u27) K=vg8 u0 u1 u2 u3 u4 u5 u6 u7 u8 u9 u10 u11 u12 u13 u14 u15 u16 u17 u18 u19 u20 u21 u22 u23 u24 u25 u26 u27 (Sum.elim (fun z=>K (.inl (z.1,u1,u2,u3,u4,u5,u6,u7,u8,u9,u10,u11,u18,u19,u20,u21,u22,u23,u18,u19,u20,u21,u22,u23,u26,z.2))) (fun z=>K (.inr (z.1,u1,u2,u3,u4,u5,u6,u7,u8,u9,u10,u11,z.2.1,z.2.2.1,z.2.2.2.1,z.2.2.2.2.1,z.2.2.2.2.2.1,z.2.2.2.2.2.2.1,u18,u19,u20,u21,u22,u23,z.2.2.2.2.2.2.2.1,z.2.2.2.2.2.2.2.2.1,u26,z.2.2.2.2.2.2.2.2.2)))):=by
 simp only [vev,vg8,Sum.elim_inl,Sum.elim_inr]
def wlz (a0:dTxn)(a1:vbt)(k:q66T→OR):OR:=
 vhc a0 (fun y18=>
  let y18h:=y18.2.2.2.2
  vhk a0 (fun y19=>
   bif (!y19)then
    k (y18.1,y18.2.1,y18.2.2.1,y18.2.2.2.1,y18h.1,y18h.2.1,false,y18h.2.2.1,y18h.2.2.2)
   else
    bif (a0.2.1 != (1:Int))then
     k (y18.1,y18.2.1,y18.2.2.1,y18.2.2.2.1,y18h.1,y18h.2.1,false,y18h.2.2.1,y18h.2.2.2)
    else
     vru a1 (fun y20=>
      bif (!y20)then
       k (y18.1,y18.2.1,y18.2.2.1,y18.2.2.2.1,y18h.1,y18h.2.1,false,y18h.2.2.1,y18h.2.2.2)
      else
       vg8 false a0.1 a0.2.1 a0.2.2.1 a0.2.2.2.1 a0.2.2.2.2.1 a0.2.2.2.2.2.1 a0.2.2.2.2.2.2.1 a0.2.2.2.2.2.2.2 a1.1 a1.2.1 a1.2.2 (0:Int) (0:Int) (0:Int) (0:Int) false (⟨#[]⟩:ByteArray) y18.1 y18.2.1 y18.2.2.1 y18.2.2.2.1 y18h.1 y18h.2.1 ([]:List vb6) ([]:List vbt) y18h.2.2.1 y18h.2.2.2 (Sum.elim (fun z21=>
        k (y18.1,y18.2.1,y18.2.2.1,y18.2.2.2.1,y18h.1,y18h.2.1,z21.1,y18h.2.2.1,z21.2)) (fun z22=>
        let z22h:=z22.2.2.2.2
        k (z22.2.1,z22.2.2.1,z22.2.2.2.1,z22h.1,z22h.2.1,z22h.2.2.1,z22.1,z22h.2.2.2.1,z22h.2.2.2.2.1))))))
theorem w07 {a0:dTxn}{a1:vbt}  {k:q66T→OR}:v1e a0 a1 k=wlz a0 a1 k:=by
 rw [wlv]
 simp only [wcw,wlz,vzs,Sum.elim_inl,Sum.elim_inr]
def vhy (u0:TL)(u1:Int):List dTxn→ByteArray→Nat→(((Int×Int×ByteArray)⊕(Int×ByteArray))→OR)→OR
 |[],s4,i,k=>
  k (.inr ((i:Int),s4))
 |y::l,s4,i,k=>
  v2f y s4 (fun y1=>
   bif y1.1 then
    k (.inl ((i:Int),(i:Int),y1.2))
   else
    vhy u0 u1 l y1.2 (i+1) k)
theorem wmz {u0 u1}(h0:u0.length<9223372036854775807){K:(q6T⊕q6T)→OR}:∀(l:List dTxn) (i n:Nat),u0.drop i=l→l.length<n→∀(s4:ByteArray),vad vkb n (u0,u1,(u0.length:Int),(i:Int),s4) K=vhy u0 u1 l s4 i (Sum.elim (fun z=>K (.inl (u0,z.1,(u0.length:Int),z.2.1,z.2.2))) (fun z=>K (.inr (u0,u1,(u0.length:Int),z.1,z.2)))):=
 vbc h0 (fun i n a=>by intros;simp only [vad,vkb,vhy,a,decide_false,cond_false,Sum.elim_inr,Sum.elim_inl])
  (fun y l i n a f=>by intros;simp only [vad,vkb,vhy,a,decide_true,cond_true,and_self,if_true,Sum.elim_inl,Sum.elim_inr,f])
theorem woq {u0 u1}(h0:u0.length<9223372036854775807){K:(q6T⊕q6T)→OR}{s4:ByteArray}:vad vkb Fuel (u0,u1,(u0.length:Int),(0:Int),s4) K=vhy u0 u1 u0 s4 0 (Sum.elim (fun z=>K (.inl (u0,z.1,(u0.length:Int),z.2.1,z.2.2))) (fun z=>K (.inr (u0,u1,(u0.length:Int),z.1,z.2)))):=
 wmz h0 u0 0 Fuel rfl (vay h0) s4
def v96 (a0:TL)(a1:ByteArray)(k:(Int×ByteArray)→OR):OR:=
 vhy a0 (0:Int) a0 a1 0 (Sum.elim (fun z18=>
  k (z18.1,z18.2.2)) (fun z19=>
  k ((-1:Int),z19.2)))
theorem wwy {a0:TL}{a1:ByteArray}(h0:a0.length<9223372036854775807){k:(Int×ByteArray)→OR}:vxz a0 a1 k=v96 a0 a1 k:=by
 rw [wae]
 simp only [v20,v96,(woq h0),Sum.elim_inl,Sum.elim_inr]
def vmt (u0:WL)(u1:Bool)(u2:WL)(u3 u4:Int)(u5:WL)(u8 u9:ByteArray)(u10:Bool):List vbt→Nat→(((Bool×Int)⊕Int)→OR)→OR
 |[],i,k=>
  k (.inr (i:Int))
 |y::l,i,k=>
  bif (va3 u8 (y.1))then
   k (.inl (true,(i:Int)))
  else
   vmt u0 u1 u2 u3 u4 u5 u8 u9 u10 l (i+1) k
theorem wrj {u0 u1} {u2 u3} {u4 u5} {u8 u9 u10}(h0:u5.length<9223372036854775807){K:(q22T⊕q22T)→OR}:∀(l:List vbt) (i n:Nat),u5.drop i=l→l.length<n→vad vn8 n (u0,u1,u2,u3,u4,u5,(u5.length:Int),(i:Int),u8,u9,u10) K=vmt u0 u1 u2 u3 u4 u5 u8 u9 u10 l  i (Sum.elim (fun z=>K (.inl (u0,z.1,u2,u3,u4,u5,(u5.length:Int),z.2,u8,u9,u10))) (fun z=>K (.inr (u0,u1,u2,u3,u4,u5,(u5.length:Int),z,u8,u9,u10)))):=
 vbc h0 (fun i n a=>by intros;simp only [vad,vn8,vmt,a,decide_false,cond_false,Sum.elim_inr,Sum.elim_inl])
  (fun y l i n a f=>by intros;simp only [vad,vn8,vmt,a,decide_true,cond_true,and_self,if_true,Sum.elim_inl,Sum.elim_inr,f])
theorem wey {u0 u1} {u2 u3} {u4 u5} {u8 u9 u10}(h0:u5.length<9223372036854775807){K:(q22T⊕q22T)→OR}  : vad vn8 Fuel (u0,u1,u2,u3,u4,u5,(u5.length:Int),(0:Int),u8,u9,u10) K=vmt u0 u1 u2 u3 u4 u5 u8 u9 u10 u5  0 (Sum.elim (fun z=>K (.inl (u0,z.1,u2,u3,u4,u5,(u5.length:Int),z.2,u8,u9,u10))) (fun z=>K (.inr (u0,u1,u2,u3,u4,u5,(u5.length:Int),z,u8,u9,u10)))):=
 wrj h0 u5 0 Fuel rfl (vay h0)
def vnm (u0:WL)(u1:Bool)(u2:WL):List vbt→Nat→((Int⊕(Bool×Int))→OR)→OR
 |[],i,k=>
  k (.inl (i:Int))
 |y::l,i,k=>
  vmt u0 u1 u2 (u2.length:Int) (i:Int) u0 y.1 y.2.1 y.2.2 u0  0 (Sum.elim (fun z1=>
   k (.inr (z1.1,(i:Int)))) (fun _=>
   vnm u0 u1 u2 l (i+1) k))
theorem wsu {u0 u1 u2}(h0:u2.length<9223372036854775807)(h1:u0.length<9223372036854775807){K:(q23T⊕q23T)→OR}:∀(l:List vbt) (i n:Nat),u2.drop i=l→l.length<n→vad voa n (u0,u1,u2,(u2.length:Int),(i:Int)) K=vnm u0 u1 u2 l  i (Sum.elim (fun z=>K (.inl (u0,u1,u2,(u2.length:Int),z))) (fun z=>K (.inr (u0,z.1,u2,(u2.length:Int),z.2)))):=
 vbc h0 (fun i n a=>by intros;simp only [vad,voa,vnm,a,decide_false,cond_false,Sum.elim_inr,Sum.elim_inl,(wey h1)])
  (fun y l i n a f=>by intros;simp only [vad,voa,vnm,a,decide_true,cond_true,and_self,if_true,Sum.elim_inl,Sum.elim_inr,f,(wey h1)])
theorem wr1 {u0 u1 u2}(h0:u2.length<9223372036854775807)(h1:u0.length<9223372036854775807){K:(q23T⊕q23T)→OR}  : vad voa Fuel (u0,u1,u2,(u2.length:Int),(0:Int)) K=vnm u0 u1 u2 u2  0 (Sum.elim (fun z=>K (.inl (u0,u1,u2,(u2.length:Int),z))) (fun z=>K (.inr (u0,z.1,u2,(u2.length:Int),z.2)))):=
 wsu h0 h1 u2 0 Fuel rfl (vay h0)
def wmf (a0:WL)(a1:WL)(k:Bool→OR):OR:=
 vnm a1 false a0 a0  0 (Sum.elim (fun _=>
  k false) (fun z19=>
  k z19.1))
theorem w1a {a0:WL}{a1:WL}(h0:a0.length<9223372036854775807)(h1:a1.length<9223372036854775807){k:Bool→OR}:vxq a0 a1 k=wmf a0 a1 k:=by
 rw [wm0]
 simp only [wdk,wmf,(wr1 h0 h1),Sum.elim_inl,Sum.elim_inr]
def vi9 (u0:TL)(u1:Int):List dTxn→Int→Int→Int→Int→RL→WL→Bool→ByteArray→Nat→((q73T⊕q71T)→OR)→OR
 |[],s4,s5,s6,s7,s8,s9,s10,s11,i,k=>
  k (.inr ((i:Int),s4,s5,s6,s7,s8,s9,s10,s11))
 |y::l,s4,s5,s6,s7,s8,s9,s10,s11,i,k=>
  v0m y s4 s5 s6 s7 s8 s9 s10 s11 (fun y1=>
   let y1h:=y1.2.2.2.2
   bif y1.1 then
    k (.inl ((i:Int),(i:Int),y1.2.1,y1.2.2.1,y1.2.2.2.1,y1h.1,y1h.2.1,y1h.2.2.1,y1h.2.2.2.1,y1h.2.2.2.2))
   else
    vi9 u0 u1 l y1.2.1 y1.2.2.1 y1.2.2.2.1 y1h.1 y1h.2.1 y1h.2.2.1 y1h.2.2.2.1 y1h.2.2.2.2 (i+1) k)
theorem woc {u0 u1}(h0:u0.length<9223372036854775807){K:(q10T⊕q10T)→OR}:∀(l:List dTxn) (i n:Nat),u0.drop i=l→l.length<n→∀(s4:Int) (s5:Int) (s6:Int) (s7:Int) (s8:RL) (s9:WL) (s10:Bool) (s11:ByteArray),vad vjb n (u0,u1,(u0.length:Int),(i:Int),s4,s5,s6,s7,s8,s9,s10,s11) K=vi9 u0 u1 l s4 s5 s6 s7 s8 s9 s10 s11 i (Sum.elim (fun z=>K (.inl (u0,z.1,(u0.length:Int),z.2.1,z.2.2.1,z.2.2.2.1,z.2.2.2.2.1,z.2.2.2.2.2.1,z.2.2.2.2.2.2.1,z.2.2.2.2.2.2.2.1,z.2.2.2.2.2.2.2.2.1,z.2.2.2.2.2.2.2.2.2))) (fun z=>K (.inr (u0,u1,(u0.length:Int),z.1,z.2.1,z.2.2.1,z.2.2.2.1,z.2.2.2.2.1,z.2.2.2.2.2.1,z.2.2.2.2.2.2.1,z.2.2.2.2.2.2.2.1,z.2.2.2.2.2.2.2.2)))):=
 vbc h0 (fun i n a=>by intros;simp only [vad,vjb,vi9,a,decide_false,cond_false,Sum.elim_inr,Sum.elim_inl])
  (fun y l i n a f=>by intros;simp only [vad,vjb,vi9,a,decide_true,cond_true,and_self,if_true,Sum.elim_inl,Sum.elim_inr,f])
theorem wjx {u0 u1}(h0:u0.length<9223372036854775807){K:(q10T⊕q10T)→OR}{s4:Int}{s5:Int}{s6:Int}{s7:Int}{s8:RL}{s9:WL}{s10:Bool}{s11:ByteArray}:vad vjb Fuel (u0,u1,(u0.length:Int),(0:Int),s4,s5,s6,s7,s8,s9,s10,s11) K=vi9 u0 u1 u0 s4 s5 s6 s7 s8 s9 s10 s11 0 (Sum.elim (fun z=>K (.inl (u0,z.1,(u0.length:Int),z.2.1,z.2.2.1,z.2.2.2.1,z.2.2.2.2.1,z.2.2.2.2.2.1,z.2.2.2.2.2.2.1,z.2.2.2.2.2.2.2.1,z.2.2.2.2.2.2.2.2.1,z.2.2.2.2.2.2.2.2.2))) (fun z=>K (.inr (u0,u1,(u0.length:Int),z.1,z.2.1,z.2.2.1,z.2.2.2.1,z.2.2.2.2.1,z.2.2.2.2.2.1,z.2.2.2.2.2.2.1,z.2.2.2.2.2.2.2.1,z.2.2.2.2.2.2.2.2)))):=
 woc h0 u0 0 Fuel rfl (vay h0) s4 s5 s6 s7 s8 s9 s10 s11
def v81 (a0:TL)(a1:Int)(a2:Int)(a3:Int)(a4:Int)(a5:RL)(a6:WL)(a7:Bool)(a8:ByteArray)(k:q71T→OR):OR:=
 vi9 a0 (0:Int) a0 a1 a2 a3 a4 a5 a6 a7 a8 0 (Sum.elim (fun z18=>
  let z18h:=z18.2.2.2.2
  k (z18.1,z18.2.2.1,z18.2.2.2.1,z18h.1,z18h.2.1,z18h.2.2.1,z18h.2.2.2.1,z18h.2.2.2.2.1,z18h.2.2.2.2.2)) (fun z19=>
  let z19h:=z19.2.2.2.2
  k ((-1:Int),z19.2.1,z19.2.2.1,z19.2.2.2.1,z19h.1,z19h.2.1,z19h.2.2.1,z19h.2.2.2.1,z19h.2.2.2.2)))
theorem wwz {a0:TL}{a1:Int}{a2:Int}{a3:Int}{a4:Int}{a5:RL}{a6:WL}{a7:Bool}{a8:ByteArray}(h0:a0.length<9223372036854775807){k:q71T→OR}:vux a0 a1 a2 a3 a4 a5 a6 a7 a8 k=v81 a0 a1 a2 a3 a4 a5 a6 a7 a8 k:=by
 rw [wa2]
 simp only [v39,v81,(wjx h0),Sum.elim_inl,Sum.elim_inr]
def vny (u0:WL)(u1:Bool)(u2:RL)(u3 u4:Int)(u5:WL)(u8 u9:ByteArray):List vbt→Nat→(((Bool×Int)⊕Int)→OR)→OR
 |[],i,k=>
  k (.inr (i:Int))
 |y::l,i,k=>
  v1i (u8,u9) y.1 (fun y1=>
   bif y1 then
    k (.inl (true,(i:Int)))
   else
    vny u0 u1 u2 u3 u4 u5 u8 u9 l (i+1) k)
theorem wq2 {u0 u1} {u2 u3} {u4 u5} {u8 u9}(h0:u5.length<9223372036854775807){K:(q20T⊕q20T)→OR}:∀(l:List vbt) (i n:Nat),u5.drop i=l→l.length<n→vad vmw n (u0,u1,u2,u3,u4,u5,(u5.length:Int),(i:Int),u8,u9) K=vny u0 u1 u2 u3 u4 u5 u8 u9 l  i (Sum.elim (fun z=>K (.inl (u0,z.1,u2,u3,u4,u5,(u5.length:Int),z.2,u8,u9))) (fun z=>K (.inr (u0,u1,u2,u3,u4,u5,(u5.length:Int),z,u8,u9)))):=
 vbc h0 (fun i n a=>by intros;simp only [vad,vmw,vny,a,decide_false,cond_false,Sum.elim_inr,Sum.elim_inl])
  (fun y l i n a f=>by intros;simp only [vad,vmw,vny,a,decide_true,cond_true,and_self,if_true,Sum.elim_inl,Sum.elim_inr,f])
theorem wfc {u0 u1} {u2 u3} {u4 u5} {u8 u9}(h0:u5.length<9223372036854775807){K:(q20T⊕q20T)→OR}  : vad vmw Fuel (u0,u1,u2,u3,u4,u5,(u5.length:Int),(0:Int),u8,u9) K=vny u0 u1 u2 u3 u4 u5 u8 u9 u5  0 (Sum.elim (fun z=>K (.inl (u0,z.1,u2,u3,u4,u5,(u5.length:Int),z.2,u8,u9))) (fun z=>K (.inr (u0,u1,u2,u3,u4,u5,(u5.length:Int),z,u8,u9)))):=
 wq2 h0 u5 0 Fuel rfl (vay h0)
def vne (u0:WL)(u1:Bool)(u2:RL):List vb6→Nat→((Int⊕(Bool×Int))→OR)→OR
 |[],i,k=>
  k (.inl (i:Int))
 |y::l,i,k=>
  vny u0 u1 u2 (u2.length:Int) (i:Int) u0 y.1 y.2 u0  0 (Sum.elim (fun z1=>
   k (.inr (z1.1,(i:Int)))) (fun _=>
   vne u0 u1 u2 l (i+1) k))
theorem wq5 {u0 u1 u2}(h0:u2.length<9223372036854775807)(h1:u0.length<9223372036854775807){K:(q21T⊕q21T)→OR}:∀(l:List vb6) (i n:Nat),u2.drop i=l→l.length<n→vad vn3 n (u0,u1,u2,(u2.length:Int),(i:Int)) K=vne u0 u1 u2 l  i (Sum.elim (fun z=>K (.inl (u0,u1,u2,(u2.length:Int),z))) (fun z=>K (.inr (u0,z.1,u2,(u2.length:Int),z.2)))):=
 vbc h0 (fun i n a=>by intros;simp only [vad,vn3,vne,a,decide_false,cond_false,Sum.elim_inr,Sum.elim_inl,(wfc h1)])
  (fun y l i n a f=>by intros;simp only [vad,vn3,vne,a,decide_true,cond_true,and_self,if_true,Sum.elim_inl,Sum.elim_inr,f,(wfc h1)])
theorem wss {u0 u1 u2}(h0:u2.length<9223372036854775807)(h1:u0.length<9223372036854775807){K:(q21T⊕q21T)→OR}  : vad vn3 Fuel (u0,u1,u2,(u2.length:Int),(0:Int)) K=vne u0 u1 u2 u2  0 (Sum.elim (fun z=>K (.inl (u0,u1,u2,(u2.length:Int),z))) (fun z=>K (.inr (u0,z.1,u2,(u2.length:Int),z.2)))):=
 wq5 h0 h1 u2 0 Fuel rfl (vay h0)
def wlf (a0:RL)(a1:WL)(k:Bool→OR):OR:=
 vne a1 false a0 a0  0 (Sum.elim (fun _=>
  k false) (fun z19=>
  k z19.1))
theorem w1z {a0:RL}{a1:WL}(h0:a0.length<9223372036854775807)(h1:a1.length<9223372036854775807){k:Bool→OR}:v2i a0 a1 k=wlf a0 a1 k:=by
 rw [wlp]
 simp only [wd9,wlf,(wss h0 h1),Sum.elim_inl,Sum.elim_inr]
def vj3 (u0:TL)(u1:Int):List dTxn→Int→Int→Int→Int→RL→WL→Bool→ByteArray→Nat→((q73T⊕q71T)→OR)→OR
 |[],s4,s5,s6,s7,s8,s9,s10,s11,i,k=>
  k (.inr ((i:Int),s4,s5,s6,s7,s8,s9,s10,s11))
 |y::l,s4,s5,s6,s7,s8,s9,s10,s11,i,k=>
  v2l y s4 s5 s6 s7 s8 s9 s10 s11 (fun y1=>
   let y1h:=y1.2.2.2.2
   bif y1.1 then
    k (.inl ((i:Int),(i:Int),y1.2.1,y1.2.2.1,y1.2.2.2.1,y1h.1,y1h.2.1,y1h.2.2.1,y1h.2.2.2.1,y1h.2.2.2.2))
   else
    vj3 u0 u1 l y1.2.1 y1.2.2.1 y1.2.2.2.1 y1h.1 y1h.2.1 y1h.2.2.1 y1h.2.2.2.1 y1h.2.2.2.2 (i+1) k)
theorem wmu {u0 u1}(h0:u0.length<9223372036854775807){K:(q10T⊕q10T)→OR}:∀(l:List dTxn) (i n:Nat),u0.drop i=l→l.length<n→∀(s4:Int) (s5:Int) (s6:Int) (s7:Int) (s8:RL) (s9:WL) (s10:Bool) (s11:ByteArray),vad vj6 n (u0,u1,(u0.length:Int),(i:Int),s4,s5,s6,s7,s8,s9,s10,s11) K=vj3 u0 u1 l s4 s5 s6 s7 s8 s9 s10 s11 i (Sum.elim (fun z=>K (.inl (u0,z.1,(u0.length:Int),z.2.1,z.2.2.1,z.2.2.2.1,z.2.2.2.2.1,z.2.2.2.2.2.1,z.2.2.2.2.2.2.1,z.2.2.2.2.2.2.2.1,z.2.2.2.2.2.2.2.2.1,z.2.2.2.2.2.2.2.2.2))) (fun z=>K (.inr (u0,u1,(u0.length:Int),z.1,z.2.1,z.2.2.1,z.2.2.2.1,z.2.2.2.2.1,z.2.2.2.2.2.1,z.2.2.2.2.2.2.1,z.2.2.2.2.2.2.2.1,z.2.2.2.2.2.2.2.2)))):=
 vbc h0 (fun i n a=>by intros;simp only [vad,vj6,vj3,a,decide_false,cond_false,Sum.elim_inr,Sum.elim_inl])
  (fun y l i n a f=>by intros;simp only [vad,vj6,vj3,a,decide_true,cond_true,and_self,if_true,Sum.elim_inl,Sum.elim_inr,f])
theorem wjp {u0 u1}(h0:u0.length<9223372036854775807){K:(q10T⊕q10T)→OR}{s4:Int}{s5:Int}{s6:Int}{s7:Int}{s8:RL}{s9:WL}{s10:Bool}{s11:ByteArray}:vad vj6 Fuel (u0,u1,(u0.length:Int),(0:Int),s4,s5,s6,s7,s8,s9,s10,s11) K=vj3 u0 u1 u0 s4 s5 s6 s7 s8 s9 s10 s11 0 (Sum.elim (fun z=>K (.inl (u0,z.1,(u0.length:Int),z.2.1,z.2.2.1,z.2.2.2.1,z.2.2.2.2.1,z.2.2.2.2.2.1,z.2.2.2.2.2.2.1,z.2.2.2.2.2.2.2.1,z.2.2.2.2.2.2.2.2.1,z.2.2.2.2.2.2.2.2.2))) (fun z=>K (.inr (u0,u1,(u0.length:Int),z.1,z.2.1,z.2.2.1,z.2.2.2.1,z.2.2.2.2.1,z.2.2.2.2.2.1,z.2.2.2.2.2.2.1,z.2.2.2.2.2.2.2.1,z.2.2.2.2.2.2.2.2)))):=
 wmu h0 u0 0 Fuel rfl (vay h0) s4 s5 s6 s7 s8 s9 s10 s11
def wbm (a0:TL)(a1:Int)(a2:Int)(a3:Int)(a4:Int)(a5:RL)(a6:WL)(a7:Bool)(a8:ByteArray)(k:q71T→OR):OR:=
 vj3 a0 (0:Int) a0 a1 a2 a3 a4 a5 a6 a7 a8 0 (Sum.elim (fun z18=>
  let z18h:=z18.2.2.2.2
  k (z18.1,z18.2.2.1,z18.2.2.2.1,z18h.1,z18h.2.1,z18h.2.2.1,z18h.2.2.2.1,z18h.2.2.2.2.1,z18h.2.2.2.2.2)) (fun z19=>
  let z19h:=z19.2.2.2.2
  k ((-1:Int),z19.2.1,z19.2.2.1,z19.2.2.2.1,z19h.1,z19h.2.1,z19h.2.2.1,z19h.2.2.2.1,z19h.2.2.2.2)))
theorem wyc {a0:TL}{a1:Int}{a2:Int}{a3:Int}{a4:Int}{a5:RL}{a6:WL}{a7:Bool}{a8:ByteArray}(h0:a0.length<9223372036854775807){k:q71T→OR}:vu5 a0 a1 a2 a3 a4 a5 a6 a7 a8 k=wbm a0 a1 a2 a3 a4 a5 a6 a7 a8 k:=by
 rw [wbj]
 simp only [v3n,wbm,(wjp h0),Sum.elim_inl,Sum.elim_inr]
def vjx (u0:TL)(u1:Int):List dTxn→Int→Int→Int→Int→RL→WL→Bool→ByteArray→Nat→((q73T⊕q71T)→OR)→OR
 |[],s4,s5,s6,s7,s8,s9,s10,s11,i,k=>
  k (.inr ((i:Int),s4,s5,s6,s7,s8,s9,s10,s11))
 |y::l,s4,s5,s6,s7,s8,s9,s10,s11,i,k=>
  v1l y s4 s5 s6 s7 s8 s9 s10 s11 (fun y1=>
   let y1h:=y1.2.2.2.2
   bif y1.1 then
    k (.inl ((i:Int),(i:Int),y1.2.1,y1.2.2.1,y1.2.2.2.1,y1h.1,y1h.2.1,y1h.2.2.1,y1h.2.2.2.1,y1h.2.2.2.2))
   else
    vjx u0 u1 l y1.2.1 y1.2.2.1 y1.2.2.2.1 y1h.1 y1h.2.1 y1h.2.2.1 y1h.2.2.2.1 y1h.2.2.2.2 (i+1) k)
theorem wi0 {u0 u1}(h0:u0.length<9223372036854775807){K:(q10T⊕q10T)→OR}:∀(l:List dTxn) (i n:Nat),u0.drop i=l→l.length<n→∀(s4:Int) (s5:Int) (s6:Int) (s7:Int) (s8:RL) (s9:WL) (s10:Bool) (s11:ByteArray),vad vjr n (u0,u1,(u0.length:Int),(i:Int),s4,s5,s6,s7,s8,s9,s10,s11) K=vjx u0 u1 l s4 s5 s6 s7 s8 s9 s10 s11 i (Sum.elim (fun z=>K (.inl (u0,z.1,(u0.length:Int),z.2.1,z.2.2.1,z.2.2.2.1,z.2.2.2.2.1,z.2.2.2.2.2.1,z.2.2.2.2.2.2.1,z.2.2.2.2.2.2.2.1,z.2.2.2.2.2.2.2.2.1,z.2.2.2.2.2.2.2.2.2))) (fun z=>K (.inr (u0,u1,(u0.length:Int),z.1,z.2.1,z.2.2.1,z.2.2.2.1,z.2.2.2.2.1,z.2.2.2.2.2.1,z.2.2.2.2.2.2.1,z.2.2.2.2.2.2.2.1,z.2.2.2.2.2.2.2.2)))):=
 vbc h0 (fun i n a=>by intros;simp only [vad,vjr,vjx,a,decide_false,cond_false,Sum.elim_inr,Sum.elim_inl])
  (fun y l i n a f=>by intros;simp only [vad,vjr,vjx,a,decide_true,cond_true,and_self,if_true,Sum.elim_inl,Sum.elim_inr,f])
theorem wmi {u0 u1}(h0:u0.length<9223372036854775807){K:(q10T⊕q10T)→OR}{s4:Int}{s5:Int}{s6:Int}{s7:Int}{s8:RL}{s9:WL}{s10:Bool}{s11:ByteArray}:vad vjr Fuel (u0,u1,(u0.length:Int),(0:Int),s4,s5,s6,s7,s8,s9,s10,s11) K=vjx u0 u1 u0 s4 s5 s6 s7 s8 s9 s10 s11 0 (Sum.elim (fun z=>K (.inl (u0,z.1,(u0.length:Int),z.2.1,z.2.2.1,z.2.2.2.1,z.2.2.2.2.1,z.2.2.2.2.2.1,z.2.2.2.2.2.2.1,z.2.2.2.2.2.2.2.1,z.2.2.2.2.2.2.2.2.1,z.2.2.2.2.2.2.2.2.2))) (fun z=>K (.inr (u0,u1,(u0.length:Int),z.1,z.2.1,z.2.2.1,z.2.2.2.1,z.2.2.2.2.1,z.2.2.2.2.2.1,z.2.2.2.2.2.2.1,z.2.2.2.2.2.2.2.1,z.2.2.2.2.2.2.2.2)))):=
 wi0 h0 u0 0 Fuel rfl (vay h0) s4 s5 s6 s7 s8 s9 s10 s11
def v8u (a0:TL)(a1:Int)(a2:Int)(a3:Int)(a4:Int)(a5:RL)(a6:WL)(a7:Bool)(a8:ByteArray)(k:q71T→OR):OR:=
 vjx a0 (0:Int) a0 a1 a2 a3 a4 a5 a6 a7 a8 0 (Sum.elim (fun z18=>
  let z18h:=z18.2.2.2.2
  k (z18.1,z18.2.2.1,z18.2.2.2.1,z18h.1,z18h.2.1,z18h.2.2.1,z18h.2.2.2.1,z18h.2.2.2.2.1,z18h.2.2.2.2.2)) (fun z19=>
  let z19h:=z19.2.2.2.2
  k ((-1:Int),z19.2.1,z19.2.2.1,z19.2.2.2.1,z19h.1,z19h.2.1,z19h.2.2.1,z19h.2.2.2.1,z19h.2.2.2.2)))
theorem wy0 {a0:TL}{a1:Int}{a2:Int}{a3:Int}{a4:Int}{a5:RL}{a6:WL}{a7:Bool}{a8:ByteArray}(h0:a0.length<9223372036854775807){k:q71T→OR}:vw1 a0 a1 a2 a3 a4 a5 a6 a7 a8 k=v8u a0 a1 a2 a3 a4 a5 a6 a7 a8 k:=by
 rw [wal]
 simp only [v3d,v8u,(wmi h0),Sum.elim_inl,Sum.elim_inr]
def vjc (u0:TL)(u1:Int):List dTxn→Int→Int→Int→Int→RL→WL→Bool→ByteArray→Nat→((q73T⊕q71T)→OR)→OR
 |[],s4,s5,s6,s7,s8,s9,s10,s11,i,k=>
  k (.inr ((i:Int),s4,s5,s6,s7,s8,s9,s10,s11))
 |y::l,s4,s5,s6,s7,s8,s9,s10,s11,i,k=>
  v01 y s4 s5 s6 s7 s8 s9 s10 s11 (fun y1=>
   let y1h:=y1.2.2.2.2
   bif y1.1 then
    k (.inl ((i:Int),(i:Int),y1.2.1,y1.2.2.1,y1.2.2.2.1,y1h.1,y1h.2.1,y1h.2.2.1,y1h.2.2.2.1,y1h.2.2.2.2))
   else
    vjc u0 u1 l y1.2.1 y1.2.2.1 y1.2.2.2.1 y1h.1 y1h.2.1 y1h.2.2.1 y1h.2.2.2.1 y1h.2.2.2.2 (i+1) k)
theorem wot {u0 u1}(h0:u0.length<9223372036854775807){K:(q10T⊕q10T)→OR}:∀(l:List dTxn) (i n:Nat),u0.drop i=l→l.length<n→∀(s4:Int) (s5:Int) (s6:Int) (s7:Int) (s8:RL) (s9:WL) (s10:Bool) (s11:ByteArray),vad vjs n (u0,u1,(u0.length:Int),(i:Int),s4,s5,s6,s7,s8,s9,s10,s11) K=vjc u0 u1 l s4 s5 s6 s7 s8 s9 s10 s11 i (Sum.elim (fun z=>K (.inl (u0,z.1,(u0.length:Int),z.2.1,z.2.2.1,z.2.2.2.1,z.2.2.2.2.1,z.2.2.2.2.2.1,z.2.2.2.2.2.2.1,z.2.2.2.2.2.2.2.1,z.2.2.2.2.2.2.2.2.1,z.2.2.2.2.2.2.2.2.2))) (fun z=>K (.inr (u0,u1,(u0.length:Int),z.1,z.2.1,z.2.2.1,z.2.2.2.1,z.2.2.2.2.1,z.2.2.2.2.2.1,z.2.2.2.2.2.2.1,z.2.2.2.2.2.2.2.1,z.2.2.2.2.2.2.2.2)))):=
 vbc h0 (fun i n a=>by intros;simp only [vad,vjs,vjc,a,decide_false,cond_false,Sum.elim_inr,Sum.elim_inl])
  (fun y l i n a f=>by intros;simp only [vad,vjs,vjc,a,decide_true,cond_true,and_self,if_true,Sum.elim_inl,Sum.elim_inr,f])
theorem wnr {u0 u1}(h0:u0.length<9223372036854775807){K:(q10T⊕q10T)→OR}{s4:Int}{s5:Int}{s6:Int}{s7:Int}{s8:RL}{s9:WL}{s10:Bool}{s11:ByteArray}:vad vjs Fuel (u0,u1,(u0.length:Int),(0:Int),s4,s5,s6,s7,s8,s9,s10,s11) K=vjc u0 u1 u0 s4 s5 s6 s7 s8 s9 s10 s11 0 (Sum.elim (fun z=>K (.inl (u0,z.1,(u0.length:Int),z.2.1,z.2.2.1,z.2.2.2.1,z.2.2.2.2.1,z.2.2.2.2.2.1,z.2.2.2.2.2.2.1,z.2.2.2.2.2.2.2.1,z.2.2.2.2.2.2.2.2.1,z.2.2.2.2.2.2.2.2.2))) (fun z=>K (.inr (u0,u1,(u0.length:Int),z.1,z.2.1,z.2.2.1,z.2.2.2.1,z.2.2.2.2.1,z.2.2.2.2.2.1,z.2.2.2.2.2.2.1,z.2.2.2.2.2.2.2.1,z.2.2.2.2.2.2.2.2)))):=
 wot h0 u0 0 Fuel rfl (vay h0) s4 s5 s6 s7 s8 s9 s10 s11
def wab (a0:TL)(a1:Int)(a2:Int)(a3:Int)(a4:Int)(a5:RL)(a6:WL)(a7:Bool)(a8:ByteArray)(k:q71T→OR):OR:=
 vjc a0 (0:Int) a0 a1 a2 a3 a4 a5 a6 a7 a8 0 (Sum.elim (fun z18=>
  let z18h:=z18.2.2.2.2
  k (z18.1,z18.2.2.1,z18.2.2.2.1,z18h.1,z18h.2.1,z18h.2.2.1,z18h.2.2.2.1,z18h.2.2.2.2.1,z18h.2.2.2.2.2)) (fun z19=>
  let z19h:=z19.2.2.2.2
  k ((-1:Int),z19.2.1,z19.2.2.1,z19.2.2.2.1,z19h.1,z19h.2.1,z19h.2.2.1,z19h.2.2.2.1,z19h.2.2.2.2)))
theorem wwf {a0:TL}{a1:Int}{a2:Int}{a3:Int}{a4:Int}{a5:RL}{a6:WL}{a7:Bool}{a8:ByteArray}(h0:a0.length<9223372036854775807){k:q71T→OR}:vw8 a0 a1 a2 a3 a4 a5 a6 a7 a8 k=wab a0 a1 a2 a3 a4 a5 a6 a7 a8 k:=by
 rw [v9o]
 simp only [v25,wab,(wnr h0),Sum.elim_inl,Sum.elim_inr]
def vjl (u0:TL)(u1:Int):List dTxn→Int→Int→Int→Int→RL→WL→Bool→ByteArray→Nat→((q73T⊕q71T)→OR)→OR
 |[],s4,s5,s6,s7,s8,s9,s10,s11,i,k=>
  k (.inr ((i:Int),s4,s5,s6,s7,s8,s9,s10,s11))
 |y::l,s4,s5,s6,s7,s8,s9,s10,s11,i,k=>
  v0b y s4 s5 s6 s7 s8 s9 s10 s11 (fun y1=>
   let y1h:=y1.2.2.2.2
   bif y1.1 then
    k (.inl ((i:Int),(i:Int),y1.2.1,y1.2.2.1,y1.2.2.2.1,y1h.1,y1h.2.1,y1h.2.2.1,y1h.2.2.2.1,y1h.2.2.2.2))
   else
    vjl u0 u1 l y1.2.1 y1.2.2.1 y1.2.2.2.1 y1h.1 y1h.2.1 y1h.2.2.1 y1h.2.2.2.1 y1h.2.2.2.2 (i+1) k)
theorem wny {u0 u1}(h0:u0.length<9223372036854775807){K:(q10T⊕q10T)→OR}:∀(l:List dTxn) (i n:Nat),u0.drop i=l→l.length<n→∀(s4:Int) (s5:Int) (s6:Int) (s7:Int) (s8:RL) (s9:WL) (s10:Bool) (s11:ByteArray),vad vjf n (u0,u1,(u0.length:Int),(i:Int),s4,s5,s6,s7,s8,s9,s10,s11) K=vjl u0 u1 l s4 s5 s6 s7 s8 s9 s10 s11 i (Sum.elim (fun z=>K (.inl (u0,z.1,(u0.length:Int),z.2.1,z.2.2.1,z.2.2.2.1,z.2.2.2.2.1,z.2.2.2.2.2.1,z.2.2.2.2.2.2.1,z.2.2.2.2.2.2.2.1,z.2.2.2.2.2.2.2.2.1,z.2.2.2.2.2.2.2.2.2))) (fun z=>K (.inr (u0,u1,(u0.length:Int),z.1,z.2.1,z.2.2.1,z.2.2.2.1,z.2.2.2.2.1,z.2.2.2.2.2.1,z.2.2.2.2.2.2.1,z.2.2.2.2.2.2.2.1,z.2.2.2.2.2.2.2.2)))):=
 vbc h0 (fun i n a=>by intros;simp only [vad,vjf,vjl,a,decide_false,cond_false,Sum.elim_inr,Sum.elim_inl])
  (fun y l i n a f=>by intros;simp only [vad,vjf,vjl,a,decide_true,cond_true,and_self,if_true,Sum.elim_inl,Sum.elim_inr,f])
theorem wpk {u0 u1}(h0:u0.length<9223372036854775807){K:(q10T⊕q10T)→OR}{s4:Int}{s5:Int}{s6:Int}{s7:Int}{s8:RL}{s9:WL}{s10:Bool}{s11:ByteArray}:vad vjf Fuel (u0,u1,(u0.length:Int),(0:Int),s4,s5,s6,s7,s8,s9,s10,s11) K=vjl u0 u1 u0 s4 s5 s6 s7 s8 s9 s10 s11 0 (Sum.elim (fun z=>K (.inl (u0,z.1,(u0.length:Int),z.2.1,z.2.2.1,z.2.2.2.1,z.2.2.2.2.1,z.2.2.2.2.2.1,z.2.2.2.2.2.2.1,z.2.2.2.2.2.2.2.1,z.2.2.2.2.2.2.2.2.1,z.2.2.2.2.2.2.2.2.2))) (fun z=>K (.inr (u0,u1,(u0.length:Int),z.1,z.2.1,z.2.2.1,z.2.2.2.1,z.2.2.2.2.1,z.2.2.2.2.2.1,z.2.2.2.2.2.2.1,z.2.2.2.2.2.2.2.1,z.2.2.2.2.2.2.2.2)))):=
 wny h0 u0 0 Fuel rfl (vay h0) s4 s5 s6 s7 s8 s9 s10 s11
def v84 (a0:TL)(a1:Int)(a2:Int)(a3:Int)(a4:Int)(a5:RL)(a6:WL)(a7:Bool)(a8:ByteArray)(k:q71T→OR):OR:=
 vjl a0 (0:Int) a0 a1 a2 a3 a4 a5 a6 a7 a8 0 (Sum.elim (fun z18=>
  let z18h:=z18.2.2.2.2
  k (z18.1,z18.2.2.1,z18.2.2.2.1,z18h.1,z18h.2.1,z18h.2.2.1,z18h.2.2.2.1,z18h.2.2.2.2.1,z18h.2.2.2.2.2)) (fun z19=>
  let z19h:=z19.2.2.2.2
  k ((-1:Int),z19.2.1,z19.2.2.1,z19.2.2.2.1,z19h.1,z19h.2.1,z19h.2.2.1,z19h.2.2.2.1,z19h.2.2.2.2)))
theorem wv7 {a0:TL}{a1:Int}{a2:Int}{a3:Int}{a4:Int}{a5:RL}{a6:WL}{a7:Bool}{a8:ByteArray}(h0:a0.length<9223372036854775807){k:q71T→OR}:vyo a0 a1 a2 a3 a4 a5 a6 a7 a8 k=v84 a0 a1 a2 a3 a4 a5 a6 a7 a8 k:=by
 rw [wa0]
 simp only [v5q,v84,(wpk h0),Sum.elim_inl,Sum.elim_inr]
def vj9 (u0:TL)(u1:Int):List dTxn→Int→Int→Int→Int→RL→WL→Bool→ByteArray→TL→Nat→(((Int×Int×Int×Int×Int×Int×RL×WL×Bool×ByteArray×TL)⊕q69T)→OR)→OR
 |[],s4,s5,s6,s7,s8,s9,s10,s11,s12,i,k=>
  k (.inr ((i:Int),s4,s5,s6,s7,s8,s9,s10,s11,s12))
 |y::l,s4,s5,s6,s7,s8,s9,s10,s11,s12,i,k=>
  v1j y s4 s5 s6 s7 s8 s9 s10 s11 s12 (fun y1=>
   let y1h:=y1.2.2.2.2
   bif y1.1 then
    k (.inl ((i:Int),(i:Int),y1.2.1,y1.2.2.1,y1.2.2.2.1,y1h.1,y1h.2.1,y1h.2.2.1,y1h.2.2.2.1,y1h.2.2.2.2.1,y1h.2.2.2.2.2))
   else
    vj9 u0 u1 l y1.2.1 y1.2.2.1 y1.2.2.2.1 y1h.1 y1h.2.1 y1h.2.2.1 y1h.2.2.2.1 y1h.2.2.2.2.1 y1h.2.2.2.2.2 (i+1) k)
theorem wp9 {u0 u1}(h0:u0.length<9223372036854775807){K:(q8T⊕q8T)→OR}:∀(l:List dTxn) (i n:Nat),u0.drop i=l→l.length<n→∀(s4:Int) (s5:Int) (s6:Int) (s7:Int) (s8:RL) (s9:WL) (s10:Bool) (s11:ByteArray) (s12:TL),vad vjz n (u0,u1,(u0.length:Int),(i:Int),s4,s5,s6,s7,s8,s9,s10,s11,s12) K=vj9 u0 u1 l s4 s5 s6 s7 s8 s9 s10 s11 s12 i (Sum.elim (fun z=>K (.inl (u0,z.1,(u0.length:Int),z.2.1,z.2.2.1,z.2.2.2.1,z.2.2.2.2.1,z.2.2.2.2.2.1,z.2.2.2.2.2.2.1,z.2.2.2.2.2.2.2.1,z.2.2.2.2.2.2.2.2.1,z.2.2.2.2.2.2.2.2.2.1,z.2.2.2.2.2.2.2.2.2.2))) (fun z=>K (.inr (u0,u1,(u0.length:Int),z.1,z.2.1,z.2.2.1,z.2.2.2.1,z.2.2.2.2.1,z.2.2.2.2.2.1,z.2.2.2.2.2.2.1,z.2.2.2.2.2.2.2.1,z.2.2.2.2.2.2.2.2.1,z.2.2.2.2.2.2.2.2.2)))):=
 vbc h0 (fun i n a=>by intros;simp only [vad,vjz,vj9,a,decide_false,cond_false,Sum.elim_inr,Sum.elim_inl])
  (fun y l i n a f=>by intros;simp only [vad,vjz,vj9,a,decide_true,cond_true,and_self,if_true,Sum.elim_inl,Sum.elim_inr,f])
theorem wi6 {u0 u1}(h0:u0.length<9223372036854775807){K:(q8T⊕q8T)→OR}{s4:Int}{s5:Int}{s6:Int}{s7:Int}{s8:RL}{s9:WL}{s10:Bool}{s11:ByteArray}{s12:TL}:vad vjz Fuel (u0,u1,(u0.length:Int),(0:Int),s4,s5,s6,s7,s8,s9,s10,s11,s12) K=vj9 u0 u1 u0 s4 s5 s6 s7 s8 s9 s10 s11 s12 0 (Sum.elim (fun z=>K (.inl (u0,z.1,(u0.length:Int),z.2.1,z.2.2.1,z.2.2.2.1,z.2.2.2.2.1,z.2.2.2.2.2.1,z.2.2.2.2.2.2.1,z.2.2.2.2.2.2.2.1,z.2.2.2.2.2.2.2.2.1,z.2.2.2.2.2.2.2.2.2.1,z.2.2.2.2.2.2.2.2.2.2))) (fun z=>K (.inr (u0,u1,(u0.length:Int),z.1,z.2.1,z.2.2.1,z.2.2.2.1,z.2.2.2.2.1,z.2.2.2.2.2.1,z.2.2.2.2.2.2.1,z.2.2.2.2.2.2.2.1,z.2.2.2.2.2.2.2.2.1,z.2.2.2.2.2.2.2.2.2)))):=
 wp9 h0 u0 0 Fuel rfl (vay h0) s4 s5 s6 s7 s8 s9 s10 s11 s12
def waq (a0:TL)(a1:Int)(a2:Int)(a3:Int)(a4:Int)(a5:RL)(a6:WL)(a7:Bool)(a8:ByteArray)(a9:TL)(k:q69T→OR):OR:=
 vj9 a0 (0:Int) a0 a1 a2 a3 a4 a5 a6 a7 a8 a9 0 (Sum.elim (fun z18=>
  let z18h:=z18.2.2.2.2
  k (z18.1,z18.2.2.1,z18.2.2.2.1,z18h.1,z18h.2.1,z18h.2.2.1,z18h.2.2.2.1,z18h.2.2.2.2.1,z18h.2.2.2.2.2.1,z18h.2.2.2.2.2.2)) (fun z19=>
  let z19h:=z19.2.2.2.2
  k ((-1:Int),z19.2.1,z19.2.2.1,z19.2.2.2.1,z19h.1,z19h.2.1,z19h.2.2.1,z19h.2.2.2.1,z19h.2.2.2.2.1,z19h.2.2.2.2.2)))
theorem wx7 {a0:TL}{a1:Int}{a2:Int}{a3:Int}{a4:Int}{a5:RL}{a6:WL}{a7:Bool}{a8:ByteArray}{a9:TL}(h0:a0.length<9223372036854775807){k:q69T→OR}:vx4 a0 a1 a2 a3 a4 a5 a6 a7 a8 a9 k=waq a0 a1 a2 a3 a4 a5 a6 a7 a8 a9 k:=by
 rw [wbi]
 simp only [v4n,waq,(wi6 h0),Sum.elim_inl,Sum.elim_inr]
def vjn (u0:TL)(u1:Int):List dTxn→Int→Int→Int→Int→RL→WL→Bool→ByteArray→Nat→((q73T⊕q71T)→OR)→OR
 |[],s4,s5,s6,s7,s8,s9,s10,s11,i,k=>
  k (.inr ((i:Int),s4,s5,s6,s7,s8,s9,s10,s11))
 |y::l,s4,s5,s6,s7,s8,s9,s10,s11,i,k=>
  vxn y s4 s5 s6 s7 s8 s9 s10 s11 (fun y1=>
   let y1h:=y1.2.2.2.2
   bif y1.1 then
    k (.inl ((i:Int),(i:Int),y1.2.1,y1.2.2.1,y1.2.2.2.1,y1h.1,y1h.2.1,y1h.2.2.1,y1h.2.2.2.1,y1h.2.2.2.2))
   else
    vjn u0 u1 l y1.2.1 y1.2.2.1 y1.2.2.2.1 y1h.1 y1h.2.1 y1h.2.2.1 y1h.2.2.2.1 y1h.2.2.2.2 (i+1) k)
theorem wls {u0 u1}(h0:u0.length<9223372036854775807){K:(q10T⊕q10T)→OR}:∀(l:List dTxn) (i n:Nat),u0.drop i=l→l.length<n→∀(s4:Int) (s5:Int) (s6:Int) (s7:Int) (s8:RL) (s9:WL) (s10:Bool) (s11:ByteArray),vad vjw n (u0,u1,(u0.length:Int),(i:Int),s4,s5,s6,s7,s8,s9,s10,s11) K=vjn u0 u1 l s4 s5 s6 s7 s8 s9 s10 s11 i (Sum.elim (fun z=>K (.inl (u0,z.1,(u0.length:Int),z.2.1,z.2.2.1,z.2.2.2.1,z.2.2.2.2.1,z.2.2.2.2.2.1,z.2.2.2.2.2.2.1,z.2.2.2.2.2.2.2.1,z.2.2.2.2.2.2.2.2.1,z.2.2.2.2.2.2.2.2.2))) (fun z=>K (.inr (u0,u1,(u0.length:Int),z.1,z.2.1,z.2.2.1,z.2.2.2.1,z.2.2.2.2.1,z.2.2.2.2.2.1,z.2.2.2.2.2.2.1,z.2.2.2.2.2.2.2.1,z.2.2.2.2.2.2.2.2)))):=
 vbc h0 (fun i n a=>by intros;simp only [vad,vjw,vjn,a,decide_false,cond_false,Sum.elim_inr,Sum.elim_inl])
  (fun y l i n a f=>by intros;simp only [vad,vjw,vjn,a,decide_true,cond_true,and_self,if_true,Sum.elim_inl,Sum.elim_inr,f])
theorem wmm {u0 u1}(h0:u0.length<9223372036854775807){K:(q10T⊕q10T)→OR}{s4:Int}{s5:Int}{s6:Int}{s7:Int}{s8:RL}{s9:WL}{s10:Bool}{s11:ByteArray}:vad vjw Fuel (u0,u1,(u0.length:Int),(0:Int),s4,s5,s6,s7,s8,s9,s10,s11) K=vjn u0 u1 u0 s4 s5 s6 s7 s8 s9 s10 s11 0 (Sum.elim (fun z=>K (.inl (u0,z.1,(u0.length:Int),z.2.1,z.2.2.1,z.2.2.2.1,z.2.2.2.2.1,z.2.2.2.2.2.1,z.2.2.2.2.2.2.1,z.2.2.2.2.2.2.2.1,z.2.2.2.2.2.2.2.2.1,z.2.2.2.2.2.2.2.2.2))) (fun z=>K (.inr (u0,u1,(u0.length:Int),z.1,z.2.1,z.2.2.1,z.2.2.2.1,z.2.2.2.2.1,z.2.2.2.2.2.1,z.2.2.2.2.2.2.1,z.2.2.2.2.2.2.2.1,z.2.2.2.2.2.2.2.2)))):=
 wls h0 u0 0 Fuel rfl (vay h0) s4 s5 s6 s7 s8 s9 s10 s11
def wav (a0:TL)(a1:Int)(a2:Int)(a3:Int)(a4:Int)(a5:RL)(a6:WL)(a7:Bool)(a8:ByteArray)(k:q71T→OR):OR:=
 vjn a0 (0:Int) a0 a1 a2 a3 a4 a5 a6 a7 a8 0 (Sum.elim (fun z18=>
  let z18h:=z18.2.2.2.2
  k (z18.1,z18.2.2.1,z18.2.2.2.1,z18h.1,z18h.2.1,z18h.2.2.1,z18h.2.2.2.1,z18h.2.2.2.2.1,z18h.2.2.2.2.2)) (fun z19=>
  let z19h:=z19.2.2.2.2
  k ((-1:Int),z19.2.1,z19.2.2.1,z19.2.2.2.1,z19h.1,z19h.2.1,z19h.2.2.1,z19h.2.2.2.1,z19h.2.2.2.2)))
theorem wxi {a0:TL}{a1:Int}{a2:Int}{a3:Int}{a4:Int}{a5:RL}{a6:WL}{a7:Bool}{a8:ByteArray}(h0:a0.length<9223372036854775807){k:q71T→OR}:vvi a0 a1 a2 a3 a4 a5 a6 a7 a8 k=wav a0 a1 a2 a3 a4 a5 a6 a7 a8 k:=by
 rw [wag]
 simp only [v5j,wav,(wmm h0),Sum.elim_inl,Sum.elim_inr]
def vj8 (u0:TL)(u1:Int):List dTxn→Int→Int→Int→Int→RL→WL→Bool→ByteArray→Int→Int→Int→Int→RL→WL→Bool→ByteArray→Nat→(((Int×Int×Int×Int×Int×Int×RL×WL×Bool×ByteArray×Int×Int×Int×Int×RL×WL×Bool×ByteArray)⊕q70T)→OR)→OR
 |[],s4,s5,s6,s7,s8,s9,s10,s11,s12,s13,s14,s15,s16,s17,s18,s19,i,k=>
  k (.inr ((i:Int),s4,s5,s6,s7,s8,s9,s10,s11,s12,s13,s14,s15,s16,s17,s18,s19))
 |y::l,s4,s5,s6,s7,s8,s9,s10,s11,s12,s13,s14,s15,s16,s17,s18,s19,i,k=>
  v0j y s4 s5 s6 s7 s8 s9 s10 s11 s12 s13 s14 s15 s16 s17 s18 s19 (fun y1=>
   let y1h:=y1.2.2.2.2
   let y1i:=y1h.2.2.2.2
   let y1j:=y1i.2.2.2.2
   bif y1.1 then
    k (.inl ((i:Int),(i:Int),y1.2.1,y1.2.2.1,y1.2.2.2.1,y1h.1,y1h.2.1,y1h.2.2.1,y1h.2.2.2.1,y1i.1,y1i.2.1,y1i.2.2.1,y1i.2.2.2.1,y1j.1,y1j.2.1,y1j.2.2.1,y1j.2.2.2.1,y1j.2.2.2.2))
   else
    vj8 u0 u1 l y1.2.1 y1.2.2.1 y1.2.2.2.1 y1h.1 y1h.2.1 y1h.2.2.1 y1h.2.2.2.1 y1i.1 y1i.2.1 y1i.2.2.1 y1i.2.2.2.1 y1j.1 y1j.2.1 y1j.2.2.1 y1j.2.2.2.1 y1j.2.2.2.2 (i+1) k)
theorem wn6 {u0 u1}(h0:u0.length<9223372036854775807){K:(q9T⊕q9T)→OR}:∀(l:List dTxn) (i n:Nat),u0.drop i=l→l.length<n→∀(s4:Int) (s5:Int) (s6:Int) (s7:Int) (s8:RL) (s9:WL) (s10:Bool) (s11:ByteArray) (s12:Int) (s13:Int) (s14:Int) (s15:Int) (s16:RL) (s17:WL) (s18:Bool) (s19:ByteArray),vad vje n (u0,u1,(u0.length:Int),(i:Int),s4,s5,s6,s7,s8,s9,s10,s11,s12,s13,s14,s15,s16,s17,s18,s19) K=vj8 u0 u1 l s4 s5 s6 s7 s8 s9 s10 s11 s12 s13 s14 s15 s16 s17 s18 s19 i (Sum.elim (fun z=>K (.inl (u0,z.1,(u0.length:Int),z.2.1,z.2.2.1,z.2.2.2.1,z.2.2.2.2.1,z.2.2.2.2.2.1,z.2.2.2.2.2.2.1,z.2.2.2.2.2.2.2.1,z.2.2.2.2.2.2.2.2.1,z.2.2.2.2.2.2.2.2.2.1,z.2.2.2.2.2.2.2.2.2.2.1,z.2.2.2.2.2.2.2.2.2.2.2.1,z.2.2.2.2.2.2.2.2.2.2.2.2.1,z.2.2.2.2.2.2.2.2.2.2.2.2.2.1,z.2.2.2.2.2.2.2.2.2.2.2.2.2.2.1,z.2.2.2.2.2.2.2.2.2.2.2.2.2.2.2.1,z.2.2.2.2.2.2.2.2.2.2.2.2.2.2.2.2.1,z.2.2.2.2.2.2.2.2.2.2.2.2.2.2.2.2.2))) (fun z=>K (.inr (u0,u1,(u0.length:Int),z.1,z.2.1,z.2.2.1,z.2.2.2.1,z.2.2.2.2.1,z.2.2.2.2.2.1,z.2.2.2.2.2.2.1,z.2.2.2.2.2.2.2.1,z.2.2.2.2.2.2.2.2.1,z.2.2.2.2.2.2.2.2.2.1,z.2.2.2.2.2.2.2.2.2.2.1,z.2.2.2.2.2.2.2.2.2.2.2.1,z.2.2.2.2.2.2.2.2.2.2.2.2.1,z.2.2.2.2.2.2.2.2.2.2.2.2.2.1,z.2.2.2.2.2.2.2.2.2.2.2.2.2.2.1,z.2.2.2.2.2.2.2.2.2.2.2.2.2.2.2.1,z.2.2.2.2.2.2.2.2.2.2.2.2.2.2.2.2)))):=
 vbc h0 (fun i n a=>by intros;simp only [vad,vje,vj8,a,decide_false,cond_false,Sum.elim_inr,Sum.elim_inl])
  (fun y l i n a f=>by intros;simp only [vad,vje,vj8,a,decide_true,cond_true,and_self,if_true,Sum.elim_inl,Sum.elim_inr,f])
theorem wni {u0 u1}(h0:u0.length<9223372036854775807){K:(q9T⊕q9T)→OR}{s4:Int}{s5:Int}{s6:Int}{s7:Int}{s8:RL}{s9:WL}{s10:Bool}{s11:ByteArray}{s12:Int}{s13:Int}{s14:Int}{s15:Int}{s16:RL}{s17:WL}{s18:Bool}{s19:ByteArray}:vad vje Fuel (u0,u1,(u0.length:Int),(0:Int),s4,s5,s6,s7,s8,s9,s10,s11,s12,s13,s14,s15,s16,s17,s18,s19) K=vj8 u0 u1 u0 s4 s5 s6 s7 s8 s9 s10 s11 s12 s13 s14 s15 s16 s17 s18 s19 0 (Sum.elim (fun z=>K (.inl (u0,z.1,(u0.length:Int),z.2.1,z.2.2.1,z.2.2.2.1,z.2.2.2.2.1,z.2.2.2.2.2.1,z.2.2.2.2.2.2.1,z.2.2.2.2.2.2.2.1,z.2.2.2.2.2.2.2.2.1,z.2.2.2.2.2.2.2.2.2.1,z.2.2.2.2.2.2.2.2.2.2.1,z.2.2.2.2.2.2.2.2.2.2.2.1,z.2.2.2.2.2.2.2.2.2.2.2.2.1,z.2.2.2.2.2.2.2.2.2.2.2.2.2.1,z.2.2.2.2.2.2.2.2.2.2.2.2.2.2.1,z.2.2.2.2.2.2.2.2.2.2.2.2.2.2.2.1,z.2.2.2.2.2.2.2.2.2.2.2.2.2.2.2.2.1,z.2.2.2.2.2.2.2.2.2.2.2.2.2.2.2.2.2))) (fun z=>K (.inr (u0,u1,(u0.length:Int),z.1,z.2.1,z.2.2.1,z.2.2.2.1,z.2.2.2.2.1,z.2.2.2.2.2.1,z.2.2.2.2.2.2.1,z.2.2.2.2.2.2.2.1,z.2.2.2.2.2.2.2.2.1,z.2.2.2.2.2.2.2.2.2.1,z.2.2.2.2.2.2.2.2.2.2.1,z.2.2.2.2.2.2.2.2.2.2.2.1,z.2.2.2.2.2.2.2.2.2.2.2.2.1,z.2.2.2.2.2.2.2.2.2.2.2.2.2.1,z.2.2.2.2.2.2.2.2.2.2.2.2.2.2.1,z.2.2.2.2.2.2.2.2.2.2.2.2.2.2.2.1,z.2.2.2.2.2.2.2.2.2.2.2.2.2.2.2.2)))):=
 wn6 h0 u0 0 Fuel rfl (vay h0) s4 s5 s6 s7 s8 s9 s10 s11 s12 s13 s14 s15 s16 s17 s18 s19
def v9m (a0:TL)(a1:Int)(a2:Int)(a3:Int)(a4:Int)(a5:RL)(a6:WL)(a7:Bool)(a8:ByteArray)(a9:Int)(a10:Int)(a11:Int)(a12:Int)(a13:RL)(a14:WL)(a15:Bool)(a16:ByteArray)(k:q70T→OR):OR:=
 vj8 a0 (0:Int) a0 a1 a2 a3 a4 a5 a6 a7 a8 a9 a10 a11 a12 a13 a14 a15 a16 0 (Sum.elim (fun z18=>
  let z18h:=z18.2.2.2.2
  let z18i:=z18h.2.2.2.2
  let z18j:=z18i.2.2.2.2
  k (z18.1,z18.2.2.1,z18.2.2.2.1,z18h.1,z18h.2.1,z18h.2.2.1,z18h.2.2.2.1,z18i.1,z18i.2.1,z18i.2.2.1,z18i.2.2.2.1,z18j.1,z18j.2.1,z18j.2.2.1,z18j.2.2.2.1,z18j.2.2.2.2.1,z18j.2.2.2.2.2)) (fun z19=>
  let z19h:=z19.2.2.2.2
  let z19i:=z19h.2.2.2.2
  let z19j:=z19i.2.2.2.2
  k ((-1:Int),z19.2.1,z19.2.2.1,z19.2.2.2.1,z19h.1,z19h.2.1,z19h.2.2.1,z19h.2.2.2.1,z19i.1,z19i.2.1,z19i.2.2.1,z19i.2.2.2.1,z19j.1,z19j.2.1,z19j.2.2.1,z19j.2.2.2.1,z19j.2.2.2.2)))
theorem wx2 {a0:TL}{a1:Int}{a2:Int}{a3:Int}{a4:Int}{a5:RL}{a6:WL}{a7:Bool}{a8:ByteArray}{a9:Int}{a10:Int}{a11:Int}{a12:Int}{a13:RL}{a14:WL}{a15:Bool}{a16:ByteArray}(h0:a0.length<9223372036854775807){k:q70T→OR}:vys a0 a1 a2 a3 a4 a5 a6 a7 a8 a9 a10 a11 a12 a13 a14 a15 a16 k=v9m a0 a1 a2 a3 a4 a5 a6 a7 a8 a9 a10 a11 a12 a13 a14 a15 a16 k:=by
 rw [v8x]
 simp only [v5i,v9m,(wni h0),Sum.elim_inl,Sum.elim_inr]
def vi4 (u0:TL)(u1:Int):List dTxn→TL→Int→Int→Int→Int→RL→WL→Bool→ByteArray→Nat→(((Int×Int×TL×Int×Int×Int×Int×RL×WL×Bool×ByteArray)⊕q48T)→OR)→OR
 |[],s4,s5,s6,s7,s8,s9,s10,s11,s12,i,k=>
  k (.inr ((i:Int),s4,s5,s6,s7,s8,s9,s10,s11,s12))
 |y::l,s4,s5,s6,s7,s8,s9,s10,s11,s12,i,k=>
  v16 y s4 s5 s6 s7 s8 s9 s10 s11 s12 (fun y1=>
   let y1h:=y1.2.2.2.2
   bif y1.1 then
    k (.inl ((i:Int),(i:Int),y1.2.1,y1.2.2.1,y1.2.2.2.1,y1h.1,y1h.2.1,y1h.2.2.1,y1h.2.2.2.1,y1h.2.2.2.2.1,y1h.2.2.2.2.2))
   else
    vi4 u0 u1 l y1.2.1 y1.2.2.1 y1.2.2.2.1 y1h.1 y1h.2.1 y1h.2.2.1 y1h.2.2.2.1 y1h.2.2.2.2.1 y1h.2.2.2.2.2 (i+1) k)
theorem wp5 {u0 u1}(h0:u0.length<9223372036854775807){K:(q5T⊕q5T)→OR}:∀(l:List dTxn) (i n:Nat),u0.drop i=l→l.length<n→∀(s4:TL) (s5:Int) (s6:Int) (s7:Int) (s8:Int) (s9:RL) (s10:WL) (s11:Bool) (s12:ByteArray),vad vi3 n (u0,u1,(u0.length:Int),(i:Int),s4,s5,s6,s7,s8,s9,s10,s11,s12) K=vi4 u0 u1 l s4 s5 s6 s7 s8 s9 s10 s11 s12 i (Sum.elim (fun z=>K (.inl (u0,z.1,(u0.length:Int),z.2.1,z.2.2.1,z.2.2.2.1,z.2.2.2.2.1,z.2.2.2.2.2.1,z.2.2.2.2.2.2.1,z.2.2.2.2.2.2.2.1,z.2.2.2.2.2.2.2.2.1,z.2.2.2.2.2.2.2.2.2.1,z.2.2.2.2.2.2.2.2.2.2))) (fun z=>K (.inr (u0,u1,(u0.length:Int),z.1,z.2.1,z.2.2.1,z.2.2.2.1,z.2.2.2.2.1,z.2.2.2.2.2.1,z.2.2.2.2.2.2.1,z.2.2.2.2.2.2.2.1,z.2.2.2.2.2.2.2.2.1,z.2.2.2.2.2.2.2.2.2)))):=
 vbc h0 (fun i n a=>by intros;simp only [vad,vi3,vi4,a,decide_false,cond_false,Sum.elim_inr,Sum.elim_inl])
  (fun y l i n a f=>by intros;simp only [vad,vi3,vi4,a,decide_true,cond_true,and_self,if_true,Sum.elim_inl,Sum.elim_inr,f])
theorem wpz {u0 u1}(h0:u0.length<9223372036854775807){K:(q5T⊕q5T)→OR}{s4:TL}{s5:Int}{s6:Int}{s7:Int}{s8:Int}{s9:RL}{s10:WL}{s11:Bool}{s12:ByteArray}:vad vi3 Fuel (u0,u1,(u0.length:Int),(0:Int),s4,s5,s6,s7,s8,s9,s10,s11,s12) K=vi4 u0 u1 u0 s4 s5 s6 s7 s8 s9 s10 s11 s12 0 (Sum.elim (fun z=>K (.inl (u0,z.1,(u0.length:Int),z.2.1,z.2.2.1,z.2.2.2.1,z.2.2.2.2.1,z.2.2.2.2.2.1,z.2.2.2.2.2.2.1,z.2.2.2.2.2.2.2.1,z.2.2.2.2.2.2.2.2.1,z.2.2.2.2.2.2.2.2.2.1,z.2.2.2.2.2.2.2.2.2.2))) (fun z=>K (.inr (u0,u1,(u0.length:Int),z.1,z.2.1,z.2.2.1,z.2.2.2.1,z.2.2.2.2.1,z.2.2.2.2.2.1,z.2.2.2.2.2.2.1,z.2.2.2.2.2.2.2.1,z.2.2.2.2.2.2.2.2.1,z.2.2.2.2.2.2.2.2.2)))):=
 wp5 h0 u0 0 Fuel rfl (vay h0) s4 s5 s6 s7 s8 s9 s10 s11 s12
def wax (a0:TL)(a1:TL)(a2:Int)(a3:Int)(a4:Int)(a5:Int)(a6:RL)(a7:WL)(a8:Bool)(a9:ByteArray)(k:q48T→OR):OR:=
 vi4 a0 (0:Int) a0 a1 a2 a3 a4 a5 a6 a7 a8 a9 0 (Sum.elim (fun z18=>
  let z18h:=z18.2.2.2.2
  k (z18.1,z18.2.2.1,z18.2.2.2.1,z18h.1,z18h.2.1,z18h.2.2.1,z18h.2.2.2.1,z18h.2.2.2.2.1,z18h.2.2.2.2.2.1,z18h.2.2.2.2.2.2)) (fun z19=>
  let z19h:=z19.2.2.2.2
  k ((-1:Int),z19.2.1,z19.2.2.1,z19.2.2.2.1,z19h.1,z19h.2.1,z19h.2.2.1,z19h.2.2.2.1,z19h.2.2.2.2.1,z19h.2.2.2.2.2)))
theorem wxx {a0:TL}{a1:TL}{a2:Int}{a3:Int}{a4:Int}{a5:Int}{a6:RL}{a7:WL}{a8:Bool}{a9:ByteArray}(h0:a0.length<9223372036854775807){k:q48T→OR}:vwg a0 a1 a2 a3 a4 a5 a6 a7 a8 a9 k=wax a0 a1 a2 a3 a4 a5 a6 a7 a8 a9 k:=by
 rw [wat]
 simp only [v2v,wax,(wpz h0),Sum.elim_inl,Sum.elim_inr]
def vh6 (u0:TL)(u1:Int):List dTxn→Int→Nat→(((Int×Int×Int)⊕(Int×Int))→OR)→OR
 |[],s4,i,k=>
  k (.inr ((i:Int),s4))
 |y::l,s4,i,k=>
  vtt y s4 (fun y1=>
   bif y1.1 then
    k (.inl ((i:Int),(i:Int),y1.2))
   else
    vh6 u0 u1 l y1.2 (i+1) k)
theorem wk5 {u0 u1}(h0:u0.length<9223372036854775807){K:(q12T⊕q12T)→OR}:∀(l:List dTxn) (i n:Nat),u0.drop i=l→l.length<n→∀(s4:Int),vad vjv n (u0,u1,(u0.length:Int),(i:Int),s4) K=vh6 u0 u1 l s4 i (Sum.elim (fun z=>K (.inl (u0,z.1,(u0.length:Int),z.2.1,z.2.2))) (fun z=>K (.inr (u0,u1,(u0.length:Int),z.1,z.2)))):=
 vbc h0 (fun i n a=>by intros;simp only [vad,vjv,vh6,a,decide_false,cond_false,Sum.elim_inr,Sum.elim_inl])
  (fun y l i n a f=>by intros;simp only [vad,vjv,vh6,a,decide_true,cond_true,and_self,if_true,Sum.elim_inl,Sum.elim_inr,f])
theorem wl6 {u0 u1}(h0:u0.length<9223372036854775807){K:(q12T⊕q12T)→OR}{s4:Int}:vad vjv Fuel (u0,u1,(u0.length:Int),(0:Int),s4) K=vh6 u0 u1 u0 s4 0 (Sum.elim (fun z=>K (.inl (u0,z.1,(u0.length:Int),z.2.1,z.2.2))) (fun z=>K (.inr (u0,u1,(u0.length:Int),z.1,z.2)))):=
 wk5 h0 u0 0 Fuel rfl (vay h0) s4
def v9p (a0:TL)(a1:Int)(k:(Int×Int)→OR):OR:=
 vh6 a0 (0:Int) a0 a1 0 (Sum.elim (fun z18=>
  k (z18.1,z18.2.2)) (fun z19=>
  k ((-1:Int),z19.2)))
theorem wxn {a0:TL}{a1:Int}(h0:a0.length<9223372036854775807){k:(Int×Int)→OR}:vpq a0 a1 k=v9p a0 a1 k:=by
 rw [v9a]
 simp only [v3t,v9p,(wl6 h0),Sum.elim_inl,Sum.elim_inr]
def v3k (a0:TL)(a1:Int)(k:((TL×Int)⊕(Int×TL))→OR):OR:=
 vpq a0 a1 (fun y18=>
  bif (y18.1==(-1:Int))then
   k (.inl (a0,y18.2))
  else
   vad vgm Fuel (.inl (y18.1,(IntKind.wrap .i64 (y18.1+(1:Int))),a0,([]:List Nat),y18.2)) (Sum.elim (fun z19=>
    if 0≤z19.1∧z19.1≤(z19.2.2.1.length:Int)then
     if 0≤z19.1∧z19.1≤((z19.2.2.1.take z19.1.toNat++List.replicate (z19.2.2.1.length-z19.1.toNat) (Ty.zero tTxn)).length:Int)then
      bif (geD z19.1.toNat (loD z19.1.toNat z19.2.2.2.1))then
       k (.inr (z19.2.2.2.2,((z19.2.2.1.take z19.1.toNat++List.replicate (z19.2.2.1.length-z19.1.toNat) (Ty.zero tTxn)).take z19.1.toNat)))
      else
       none
     else none
    else none) (fun z20=>
    if 0≤z20.1∧z20.1≤(z20.2.2.1.length:Int)then
     if 0≤z20.1∧z20.1≤((z20.2.2.1.take z20.1.toNat++List.replicate (z20.2.2.1.length-z20.1.toNat) (Ty.zero tTxn)).length:Int)then
      bif (geD z20.1.toNat (loD z20.1.toNat z20.2.2.2.1))then
       k (.inr (z20.2.2.2.2,((z20.2.2.1.take z20.1.toNat++List.replicate (z20.2.2.1.length-z20.1.toNat) (Ty.zero tTxn)).take z20.1.toNat)))
      else
       none
     else none
    else none)))
theorem wnq {a0:TL}{a1:Int}  {k:((TL×Int)⊕(Int×TL))→OR}:vs8 a0 a1 k=v3k a0 a1 k:=by
 rw [v9l]
 simp only [v3z,v3k,Sum.elim_inl,Sum.elim_inr]
def vpz (u1:TL):List dTxn→Int→Nat→((Int×Int)→OR)→OR
 |[],s0,i,k=>
  k (s0,(i:Int))
 |y::l,s0,i,k=>
  vpz u1 l (if y.2.2.1<s0 then y.2.2.1 else s0) (i+1) k
theorem wro {u1}(h0:u1.length<9223372036854775807){K:q49T→OR}:∀(l:List dTxn) (i n:Nat),u1.drop i=l→l.length<n→∀(s0:Int),vad vnw n (s0,u1,(u1.length:Int),(i:Int)) K=vpz u1 l s0 i (fun z=>K (z.1,u1,(u1.length:Int),z.2)):=
 vbc h0 (fun i n a=>by intros;simp only [vad,vnw,vpz,a,decide_false,cond_false,Sum.elim_inr,Sum.elim_inl])
  (fun y l i n a f=>by intros;simp only [vad,vnw,vpz,a,decide_true,cond_true,and_self,if_true,Sum.elim_inl,Sum.elim_inr,f])
theorem wrg {u1}(h0:u1.length<9223372036854775807){K:q49T→OR}{s0:Int}:vad vnw Fuel (s0,u1,(u1.length:Int),(0:Int)) K=vpz u1 u1 s0 0 (fun z=>K (z.1,u1,(u1.length:Int),z.2)):=
 wro h0 u1 0 Fuel rfl (vay h0) s0
def wng (a0:vh8)(a1:TL)(k:Int→OR):OR:=
 vpz a1 a1 a0.2.2.2.1 0 (fun z18=>
  k z18.1)
theorem w0b {a0:vh8}{a1:TL}(h0:a1.length<9223372036854775807){k:Int→OR}:v0e a0 a1 k=wng a0 a1 k:=by
 rw [wn4]
 simp only [wbs,wng,(wrg h0),Sum.elim_inl,Sum.elim_inr]
def vh4 (u0:TL)(u1:Int):List dTxn→Int→Nat→(((Int×Int×Int)⊕(Int×Int))→OR)→OR
 |[],s4,i,k=>
  k (.inr ((i:Int),s4))
 |y::l,s4,i,k=>
  vt8 y s4 (fun y1=>
   bif y1.1 then
    k (.inl ((i:Int),(i:Int),y1.2))
   else
    vh4 u0 u1 l y1.2 (i+1) k)
theorem wlm {u0 u1}(h0:u0.length<9223372036854775807){K:(q12T⊕q12T)→OR}:∀(l:List dTxn) (i n:Nat),u0.drop i=l→l.length<n→∀(s4:Int),vad vi8 n (u0,u1,(u0.length:Int),(i:Int),s4) K=vh4 u0 u1 l s4 i (Sum.elim (fun z=>K (.inl (u0,z.1,(u0.length:Int),z.2.1,z.2.2))) (fun z=>K (.inr (u0,u1,(u0.length:Int),z.1,z.2)))):=
 vbc h0 (fun i n a=>by intros;simp only [vad,vi8,vh4,a,decide_false,cond_false,Sum.elim_inr,Sum.elim_inl])
  (fun y l i n a f=>by intros;simp only [vad,vi8,vh4,a,decide_true,cond_true,and_self,if_true,Sum.elim_inl,Sum.elim_inr,f])
theorem wju {u0 u1}(h0:u0.length<9223372036854775807){K:(q12T⊕q12T)→OR}{s4:Int}:vad vi8 Fuel (u0,u1,(u0.length:Int),(0:Int),s4) K=vh4 u0 u1 u0 s4 0 (Sum.elim (fun z=>K (.inl (u0,z.1,(u0.length:Int),z.2.1,z.2.2))) (fun z=>K (.inr (u0,u1,(u0.length:Int),z.1,z.2)))):=
 wlm h0 u0 0 Fuel rfl (vay h0) s4
def wad (a0:TL)(a1:Int)(k:(Int×Int)→OR):OR:=
 vh4 a0 (0:Int) a0 a1 0 (Sum.elim (fun z18=>
  k (z18.1,z18.2.2)) (fun z19=>
  k ((-1:Int),z19.2)))
theorem wyg {a0:TL}{a1:Int}(h0:a0.length<9223372036854775807){k:(Int×Int)→OR}:vp1 a0 a1 k=wad a0 a1 k:=by
 rw [wa3]
 simp only [v4l,wad,(wju h0),Sum.elim_inl,Sum.elim_inr]
def v4v (a0:TL)(a1:Int)(k:((TL×Int)⊕(Int×TL))→OR):OR:=
 vp1 a0 a1 (fun y18=>
  bif (y18.1==(-1:Int))then
   k (.inl (a0,y18.2))
  else
   vad vf7 Fuel (.inl (y18.1,(IntKind.wrap .i64 (y18.1+(1:Int))),a0,([]:List Nat),y18.2)) (Sum.elim (fun z19=>
    if 0≤z19.1∧z19.1≤(z19.2.2.1.length:Int)then
     if 0≤z19.1∧z19.1≤((z19.2.2.1.take z19.1.toNat++List.replicate (z19.2.2.1.length-z19.1.toNat) (Ty.zero tTxn)).length:Int)then
      bif (geD z19.1.toNat (loD z19.1.toNat z19.2.2.2.1))then
       k (.inr (z19.2.2.2.2,((z19.2.2.1.take z19.1.toNat++List.replicate (z19.2.2.1.length-z19.1.toNat) (Ty.zero tTxn)).take z19.1.toNat)))
      else
       none
     else none
    else none) (fun z20=>
    if 0≤z20.1∧z20.1≤(z20.2.2.1.length:Int)then
     if 0≤z20.1∧z20.1≤((z20.2.2.1.take z20.1.toNat++List.replicate (z20.2.2.1.length-z20.1.toNat) (Ty.zero tTxn)).length:Int)then
      bif (geD z20.1.toNat (loD z20.1.toNat z20.2.2.2.1))then
       k (.inr (z20.2.2.2.2,((z20.2.2.1.take z20.1.toNat++List.replicate (z20.2.2.1.length-z20.1.toNat) (Ty.zero tTxn)).take z20.1.toNat)))
      else
       none
     else none
    else none)))
theorem wlh {a0:TL}{a1:Int}  {k:((TL×Int)⊕(Int×TL))→OR}:vs6 a0 a1 k=v4v a0 a1 k:=by
 rw [waz]
 simp only [v5m,v4v,Sum.elim_inl,Sum.elim_inr]
def vmd (u0:ByteArray)(u4:VL):List vak→Int→Nat→((Int×Int)→OR)→OR
 |[],s1,i,k=>
  k (s1,(i:Int))
 |y::l,s1,i,k=>
  bif (va3 (y.1) u0)then
   vmd u0 u4 l (IntKind.wrap .i64 (s1+(1:Int))) (i+1) k
  else
   vmd u0 u4 l s1 (i+1) k
theorem wqv {u0 u4}(h0:u4.length<9223372036854775807){K:q44T→OR}:∀(l:List vak) (i n:Nat),u4.drop i=l→l.length<n→∀(s1:Int),vad voj n (u0,s1,(u4.length:Int),(i:Int),u4) K=vmd u0 u4 l s1 i (fun z=>K (u0,z.1,(u4.length:Int),z.2,u4)):=
 vbc h0 (fun i n a=>by intros;simp only [vad,voj,vmd,a,decide_false,cond_false,Sum.elim_inr,Sum.elim_inl])
  (fun y l i n a f=>by intros;simp only [vad,voj,vmd,a,decide_true,cond_true,and_self,if_true,Sum.elim_inl,Sum.elim_inr,f])
theorem wru {u0 u4}(h0:u4.length<9223372036854775807){K:q44T→OR}{s1:Int}:vad voj Fuel (u0,s1,(u4.length:Int),(0:Int),u4) K=vmd u0 u4 u4 s1 0 (fun z=>K (u0,z.1,(u4.length:Int),z.2,u4)):=
 wqv h0 u4 0 Fuel rfl (vay h0) s1
def wpy (a0:ByteArray)(a1:VL)(k:(Int×VL)→OR):OR:=
 vmd a0 a1 a1 (0:Int) 0 (fun z18=>
  k (z18.1,a1))
theorem wzj {a0:ByteArray}{a1:VL}(h0:a1.length<9223372036854775807){k:(Int×VL)→OR}:v0n a0 a1 k=wpy a0 a1 k:=by
 rw [wjm]
 simp only [web,wpy,(wru h0),Sum.elim_inl,Sum.elim_inr]
def vem (u0:VL)(u1:Int)(u2:VL)(u3 u4:Int)(u5:Bool)(u6 u7:ByteArray)(u8:Bool)(u9:Int)(u10:VL)(k:VL→OR):OR:=
  bif u5 then
   if u10.length+[(u6,(u7,(u8,u9)))].length≤VE.maxLen then
    k (u10++[(u6,(u7,(u8,u9)))])
   else none
  else
   k u10
theorem vna {u0 u1} {u2 u3} {u4 u5} {u6 u7} {u8 u9 u10}  {K:q18T→OR}:vdq (u0,u1,u2,u3,u4,u5,u6,u7,u8,u9,u10) K=vem u0 u1 u2 u3 u4 u5 u6 u7 u8 u9 u10 (fun z=>K (u0,u1,u2,u3,u4,u5,u6,u7,u8,u9,z)):=by
 simp only [vdq,vem,Sum.elim_inl,Sum.elim_inr]
def vkx (u0:VL)(u1:Int)(u2:VL):List vak→VL→Nat→((Int×VL)→OR)→OR
 |[],s5,i,k=>
  k ((i:Int),s5)
 |y::l,s5,i,k=>
  bif (decide (y.2.2.2>u1))then
   vem u0 u1 u2 (u2.length:Int) (i:Int) true y.1 y.2.1 y.2.2.1 y.2.2.2 s5 (fun z1=>
    vkx u0 u1 u2 l z1 (i+1) k)
  else
   vtm u0 y.1 u1 (fun y2=>
    vem u0 u1 u2 (u2.length:Int) (i:Int) (y2==(i:Int)) y.1 y.2.1 y.2.2.1 y.2.2.2 s5 (fun z3=>
     vkx u0 u1 u2 l z3 (i+1) k))
theorem wsj {u0 u1 u2}(h0:u2.length<9223372036854775807){K:q17T→OR}:∀(l:List vak) (i n:Nat),u2.drop i=l→l.length<n→∀(s5:VL),vad vod n (u0,u1,u2,(u2.length:Int),(i:Int),s5) K=vkx u0 u1 u2 l s5 i (fun z=>K (u0,u1,u2,(u2.length:Int),z.1,z.2)):=
 vbc h0 (fun i n a=>by intros;simp only [vad,vod,vkx,a,decide_false,cond_false,Sum.elim_inr,Sum.elim_inl,vna])
  (fun y l i n a f=>by intros;simp only [vad,vod,vkx,a,decide_true,cond_true,and_self,if_true,Sum.elim_inl,Sum.elim_inr,f,vna])
theorem wri {u0 u1 u2}(h0:u2.length<9223372036854775807){K:q17T→OR}{s5:VL}:vad vod Fuel (u0,u1,u2,(u2.length:Int),(0:Int),s5) K=vkx u0 u1 u2 u2 s5 0 (fun z=>K (u0,u1,u2,(u2.length:Int),z.1,z.2)):=
 wsj h0 u2 0 Fuel rfl (vay h0) s5
def wi8 (a0:VL)(a1:Int)(k:VL→OR):OR:=
 vkx a0 a1 a0 a0 ([]:List vak) 0 (fun z18=>
  vad vn7 Fuel (a1,(z18.2.length:Int),(0:Int),([]:List vak),z18.2) (fun z19=>
   k z19.2.2.2.1))
theorem w0k {a0:VL}{a1:Int}(h0:a0.length<9223372036854775807){k:VL→OR}:vyn a0 a1 k=wi8 a0 a1 k:=by
 rw [wl7]
 simp only [wbr,wi8,(wri h0),Sum.elim_inl,Sum.elim_inr]
def vim (u0:ByteArray)(u3 u4:Int)(u5 u6:Int)(u7:RL)(u8:WL)(u9:Bool)(u10:ByteArray)(u11 u12:Int)(u13 u14:Int)(u15 u16:Int)(u17 u18:Int)(u19:Bool)(u20:ByteArray)(u23:TL)(u25:VL)(u26 u27:TL)(u28:VL)(u29:TL)(u30:RL)(u31:WL):List dTxn→TL→TL→(List Nat)→Nat→((Int×TL×TL×(List Nat))→OR)→OR
 |[],s21,s22,s24,i,k=>
  k ((i:Int),s21,s22,s24)
 |y::l,s21,s22,s24,i,k=>
  bif (hasD s24 ((i:Int).toNat))then
   none
  else
   bif (vaf (y.2.2.2.2.2.2.2) u0)then
    if s21.length+[y].length≤VE.maxLen then
     vim u0 u3 u4 u5 u6 u7 u8 u9 u10 u11 u12 u13 u14 u15 u16 u17 u18 u19 u20 u23 u25 u26 u27 u28 u29 u30 u31 l (s21++[y]) s22 ((i:Int).toNat::((i:Int).toNat::s24)) (i+1) k
    else none
   else
    if s22.length+[y].length≤VE.maxLen then
     vim u0 u3 u4 u5 u6 u7 u8 u9 u10 u11 u12 u13 u14 u15 u16 u17 u18 u19 u20 u23 u25 u26 u27 u28 u29 u30 u31 l s21 (s22++[y]) ((i:Int).toNat::((i:Int).toNat::s24)) (i+1) k
    else none
theorem wrm {u0 u3} {u4 u5} {u6 u7} {u8 u9} {u10 u11} {u12 u13} {u14 u15} {u16 u17} {u18 u19} {u20 u23} {u25 u26} {u27 u28} {u29 u30 u31}(h0:u23.length<9223372036854775807){K:(ByteArray×Int×Int×Int×Int×Int×Int×RL×WL×Bool×ByteArray×Int×Int×Int×Int×Int×Int×Int×Int×Bool×ByteArray×TL×TL×TL×(List Nat)×VL×TL×TL×VL×TL×RL×WL)→OR}:∀(l:List dTxn) (i n:Nat),u23.drop i=l→l.length<n→∀(s21:TL) (s22:TL) (s24:(List Nat)),vad vmv n (u0,(u23.length:Int),(i:Int),u3,u4,u5,u6,u7,u8,u9,u10,u11,u12,u13,u14,u15,u16,u17,u18,u19,u20,s21,s22,u23,s24,u25,u26,u27,u28,u29,u30,u31) K=vim u0 u3 u4 u5 u6 u7 u8 u9 u10 u11 u12 u13 u14 u15 u16 u17 u18 u19 u20 u23 u25 u26 u27 u28 u29 u30 u31 l s21 s22 s24 i (fun z=>K (u0,(u23.length:Int),z.1,u3,u4,u5,u6,u7,u8,u9,u10,u11,u12,u13,u14,u15,u16,u17,u18,u19,u20,z.2.1,z.2.2.1,u23,z.2.2.2,u25,u26,u27,u28,u29,u30,u31)):=
 vbc h0 (fun i n a=>by intros;simp only [vad,vmv,vim,a,decide_false,cond_false,Sum.elim_inr,Sum.elim_inl])
  (fun y l i n a f=>by intros;simp only [vad,vmv,vim,a,decide_true,cond_true,and_self,if_true,Sum.elim_inl,Sum.elim_inr,f])
theorem wqq {u0 u3} {u4 u5} {u6 u7} {u8 u9} {u10 u11} {u12 u13} {u14 u15} {u16 u17} {u18 u19} {u20 u23} {u25 u26} {u27 u28} {u29 u30 u31}(h0:u23.length<9223372036854775807){K:(ByteArray×Int×Int×Int×Int×Int×Int×RL×WL×Bool×ByteArray×Int×Int×Int×Int×Int×Int×Int×Int×Bool×ByteArray×TL×TL×TL×(List Nat)×VL×TL×TL×VL×TL×RL×WL)→OR}{s21:TL}{s22:TL}{s24:(List Nat)}:vad vmv Fuel (u0,(u23.length:Int),(0:Int),u3,u4,u5,u6,u7,u8,u9,u10,u11,u12,u13,u14,u15,u16,u17,u18,u19,u20,s21,s22,u23,s24,u25,u26,u27,u28,u29,u30,u31) K=vim u0 u3 u4 u5 u6 u7 u8 u9 u10 u11 u12 u13 u14 u15 u16 u17 u18 u19 u20 u23 u25 u26 u27 u28 u29 u30 u31 u23 s21 s22 s24 0 (fun z=>K (u0,(u23.length:Int),z.1,u3,u4,u5,u6,u7,u8,u9,u10,u11,u12,u13,u14,u15,u16,u17,u18,u19,u20,z.2.1,z.2.2.1,u23,z.2.2.2,u25,u26,u27,u28,u29,u30,u31)):=
 wrm h0 u23 0 Fuel rfl (vay h0) s21 s22 s24
def vfi (u0:ByteArray)(u1 u2:Int)(u3 u4:Int)(u5:RL)(u6:WL)(u7:Bool)(u8:ByteArray)(u9 u10:Int)(u11 u12:Int)(u13 u14:Int)(u15 u16:Int)(u17:Bool)(u18:ByteArray)(u19:VL)(u20 u21:TL)(u22:VL)(u23 u24:TL)(u25:RL)(u26:WL)(k:(Int×Int×TL)→OR):OR:=
  vim u0 u1 u2 u3 u4 u5 u6 u7 u8 u9 u10 u11 u12 u13 u14 u15 u16 u17 u18 u24 u19 u20 u21 u22 u23 u25 u26 u24 ([]:List dTxn) ([]:List dTxn) ([]:List Nat) 0 (fun z1=>
   if z1.2.1.length+[(u13,(u14,(u15,(u16,(u25,(u26,(u17,u18)))))))].length≤VE.maxLen then
    if(z1.2.1++[(u13,(u14,(u15,(u16,(u25,(u26,(u17,u18)))))))]).length+z1.2.2.1.length≤VE.maxLen then
     k ((if(IntKind.wrap .i64 (u1+(1:Int)))>u12 then(IntKind.wrap .i64 (u1+(1:Int)))else u12),(if(IntKind.wrap .i64 (u1+(1:Int)))>u12 then(IntKind.wrap .i64 (u1+(1:Int)))else u12),((z1.2.1++[(u13,(u14,(u15,(u16,(u25,(u26,(u17,u18)))))))])++z1.2.2.1))
    else none
   else none)
theorem vy8 {u0 u1} {u2 u3} {u4 u5} {u6 u7} {u8 u9} {u10 u11} {u12 u13} {u14 u15} {u16 u17} {u18 u19} {u20 u21} {u22 u23} {u24 u25 u26}(h0:u24.length<9223372036854775807){K:q46T→OR}:vc5 (u0,u1,u2,u3,u4,u5,u6,u7,u8,u9,u10,u11,u12,u13,u14,u15,u16,u17,u18,u19,u20,u21,u22,u23,u24,u25,u26) K=vfi u0 u1 u2 u3 u4 u5 u6 u7 u8 u9 u10 u11 u12 u13 u14 u15 u16 u17 u18 u19 u20 u21 u22 u23 u24 u25 u26 (fun z=>K (u0,u1,u2,u3,u4,u5,u6,u7,u8,u11,z.1,u11,z.2.1,u13,u14,u15,u16,u17,u18,u22,u23,z.2.2)):=by
 simp only [vc5,vfi,(wqq h0),Sum.elim_inl,Sum.elim_inr]
def wi2 (a0:vh8)(a1:dTxn)(a2:ByteArray)(k:q57T→OR):OR:=
 vqj a0 (fun y18=>
  vhc a1 (fun y19=>
   bif a1.2.2.2.2.2.2.1 then
    vc5 (a2,a1.1,a1.2.1,a1.2.2.1,a1.2.2.2.1,a1.2.2.2.2.1,a1.2.2.2.2.2.1,a1.2.2.2.2.2.2.1,a1.2.2.2.2.2.2.2,(0:Int),(0:Int),y18.1,y18.2.1,y19.1,(2:Int),y19.2.2.1,y19.2.2.2.1,true,a2,([]:List vak),([]:List dTxn),([]:List dTxn),y18.2.2.1,y18.2.2.2.1,y18.2.2.2.2,y19.2.2.2.2.2.2.1,y19.2.2.2.2.2.2.2) (fun z20=>
     let z20h:=z20.2.2.2.2
     let z20i:=z20h.2.2.2.2
     k (z20i.2.1,z20i.2.2.1,z20i.2.2.2.2.2.2.2.2.2.2.2.1,z20i.2.2.2.2.2.2.2.2.2.2.2.2.1,z20i.2.2.2.2.2.2.2.2.2.2.2.2.2))
   else
    vte a1 a0.2.1 (fun y21=>
     vc5 (a2,a1.1,a1.2.1,a1.2.2.1,a1.2.2.2.1,a1.2.2.2.2.1,a1.2.2.2.2.2.1,a1.2.2.2.2.2.2.1,a1.2.2.2.2.2.2.2,(0:Int),(0:Int),y18.1,y18.2.1,y19.1,(2:Int),y19.2.2.1,y19.2.2.2.1,y21,a2,([]:List vak),([]:List dTxn),([]:List dTxn),y18.2.2.1,y18.2.2.2.1,y18.2.2.2.2,y19.2.2.2.2.2.2.1,y19.2.2.2.2.2.2.2) (fun z22=>
      let z22h:=z22.2.2.2.2
      let z22i:=z22h.2.2.2.2
      k (z22i.2.1,z22i.2.2.1,z22i.2.2.2.2.2.2.2.2.2.2.2.1,z22i.2.2.2.2.2.2.2.2.2.2.2.2.1,z22i.2.2.2.2.2.2.2.2.2.2.2.2.2)))))
theorem wze {a0:vh8}{a1:dTxn}{a2:ByteArray}  {k:q57T→OR}:v00 a0 a1 a2 k=wi2 a0 a1 a2 k:=by
 rw [wkd]
 simp only [wdu,wi2,Sum.elim_inl,Sum.elim_inr]
def vjk (u0:VL)(u1:Int):List vak→ByteArray→ByteArray→Bool→Int→Nat→(((Int×Int×ByteArray×ByteArray×Bool×Int)⊕q52T)→OR)→OR
 |[],s4,s5,s6,s7,i,k=>
  k (.inr ((i:Int),s4,s5,s6,s7))
 |y::l,s4,s5,s6,s7,i,k=>
  v7c y s4 s5 s6 s7 (fun y1=>
   bif y1.1 then
    k (.inl ((i:Int),(i:Int),y1.2.1,y1.2.2.1,y1.2.2.2.1,y1.2.2.2.2))
   else
    vjk u0 u1 l y1.2.1 y1.2.2.1 y1.2.2.2.1 y1.2.2.2.2 (i+1) k)
theorem wml {u0 u1}(h0:u0.length<9223372036854775807){K:(q19T⊕q19T)→OR}:∀(l:List vak) (i n:Nat),u0.drop i=l→l.length<n→∀(s4:ByteArray) (s5:ByteArray) (s6:Bool) (s7:Int),vad vi7 n (u0,u1,(u0.length:Int),(i:Int),s4,s5,s6,s7) K=vjk u0 u1 l s4 s5 s6 s7 i (Sum.elim (fun z=>K (.inl (u0,z.1,(u0.length:Int),z.2.1,z.2.2.1,z.2.2.2.1,z.2.2.2.2.1,z.2.2.2.2.2))) (fun z=>K (.inr (u0,u1,(u0.length:Int),z.1,z.2.1,z.2.2.1,z.2.2.2.1,z.2.2.2.2)))):=
 vbc h0 (fun i n a=>by intros;simp only [vad,vi7,vjk,a,decide_false,cond_false,Sum.elim_inr,Sum.elim_inl])
  (fun y l i n a f=>by intros;simp only [vad,vi7,vjk,a,decide_true,cond_true,and_self,if_true,Sum.elim_inl,Sum.elim_inr,f])
theorem wp6 {u0 u1}(h0:u0.length<9223372036854775807){K:(q19T⊕q19T)→OR}{s4:ByteArray}{s5:ByteArray}{s6:Bool}{s7:Int}:vad vi7 Fuel (u0,u1,(u0.length:Int),(0:Int),s4,s5,s6,s7) K=vjk u0 u1 u0 s4 s5 s6 s7 0 (Sum.elim (fun z=>K (.inl (u0,z.1,(u0.length:Int),z.2.1,z.2.2.1,z.2.2.2.1,z.2.2.2.2.1,z.2.2.2.2.2))) (fun z=>K (.inr (u0,u1,(u0.length:Int),z.1,z.2.1,z.2.2.1,z.2.2.2.1,z.2.2.2.2)))):=
 wml h0 u0 0 Fuel rfl (vay h0) s4 s5 s6 s7
def v8f (a0:VL)(a1:ByteArray)(a2:ByteArray)(a3:Bool)(a4:Int)(k:q52T→OR):OR:=
 vjk a0 (0:Int) a0 a1 a2 a3 a4 0 (Sum.elim (fun z18=>
  k (z18.1,z18.2.2.1,z18.2.2.2.1,z18.2.2.2.2.1,z18.2.2.2.2.2)) (fun z19=>
  k ((-1:Int),z19.2.1,z19.2.2.1,z19.2.2.2.1,z19.2.2.2.2)))
theorem wxy {a0:VL}{a1:ByteArray}{a2:ByteArray}{a3:Bool}{a4:Int}(h0:a0.length<9223372036854775807){k:q52T→OR}:vr9 a0 a1 a2 a3 a4 k=v8f a0 a1 a2 a3 a4 k:=by
 rw [v82]
 simp only [v47,v8f,(wp6 h0),Sum.elim_inl,Sum.elim_inr]
def vma (u0:Int)(u1:WL):List vbt→VL→Nat→((Int×VL)→OR)→OR
 |[],s4,i,k=>
  k ((i:Int),s4)
 |y::l,s4,i,k=>
  vr9 s4 y.1 y.2.1 y.2.2 u0 (fun y1=>
   bif (decide (y1.1<(0:Int)))then
    vn5 (s4.length:Int) s4 [y1.2] (fun y2=>
     vma u0 u1 l y2.2 (i+1) k)
   else
    vn5 y1.1 s4 [y1.2] (fun y3=>
     vma u0 u1 l y3.2 (i+1) k))
theorem wq6 {u0 u1}(h0:u1.length<9223372036854775807){K:q50T→OR}:∀(l:List vbt) (i n:Nat),u1.drop i=l→l.length<n→∀(s4:VL),vad vnv n (u0,u1,(u1.length:Int),(i:Int),s4) K=vma u0 u1 l s4 i (fun z=>K (u0,u1,(u1.length:Int),z.1,z.2)):=
 vbc h0 (fun i n a=>by intros;simp only [vad,vnv,vma,a,decide_false,cond_false,Sum.elim_inr,Sum.elim_inl])
  (fun y l i n a f=>by intros;simp only [vad,vnv,vma,a,decide_true,cond_true,and_self,if_true,Sum.elim_inl,Sum.elim_inr,f])
theorem wqp {u0 u1}(h0:u1.length<9223372036854775807){K:q50T→OR}{s4:VL}:vad vnv Fuel (u0,u1,(u1.length:Int),(0:Int),s4) K=vma u0 u1 u1 s4 0 (fun z=>K (u0,u1,(u1.length:Int),z.1,z.2)):=
 wq6 h0 u1 0 Fuel rfl (vay h0) s4
def wm3 (a0:VL)(a1:WL)(a2:Int)(k:VL→OR):OR:=
 if a0.length≤VE.maxLen then
  vma a2 a1 a1 a0 0 (fun z18=>
   k z18.2)
 else none
theorem w02 {a0:VL}{a1:WL}{a2:Int}(h0:a1.length<9223372036854775807){k:VL→OR}:v1v a0 a1 a2 k=wm3 a0 a1 a2 k:=by
 rw [wmb]
 simp only [wdn,wm3,(wqp h0),Sum.elim_inl,Sum.elim_inr]
def vh3 (u0:TL)(u1:Int):List dTxn→Int→Int→Int→Int→Bool→ByteArray→Nat→(((Int×Int×Int×Int×Int×Int×Bool×ByteArray)⊕q72T)→OR)→OR
 |[],s4,s5,s6,s7,s8,s9,i,k=>
  k (.inr ((i:Int),s4,s5,s6,s7,s8,s9))
 |y::l,s4,s5,s6,s7,s8,s9,i,k=>
  vt6 y s4 s5 s6 s7 s8 s9 (fun y1=>
   let y1h:=y1.2.2.2.2
   bif y1.1 then
    k (.inl ((i:Int),(i:Int),y1.2.1,y1.2.2.1,y1.2.2.2.1,y1h.1,y1h.2.1,y1h.2.2))
   else
    vh3 u0 u1 l y1.2.1 y1.2.2.1 y1.2.2.2.1 y1h.1 y1h.2.1 y1h.2.2 (i+1) k)
theorem wi5 {u0 u1}(h0:u0.length<9223372036854775807){K:(q11T⊕q11T)→OR}:∀(l:List dTxn) (i n:Nat),u0.drop i=l→l.length<n→∀(s4:Int) (s5:Int) (s6:Int) (s7:Int) (s8:Bool) (s9:ByteArray),vad vkd n (u0,u1,(u0.length:Int),(i:Int),s4,s5,s6,s7,s8,s9) K=vh3 u0 u1 l s4 s5 s6 s7 s8 s9 i (Sum.elim (fun z=>K (.inl (u0,z.1,(u0.length:Int),z.2.1,z.2.2.1,z.2.2.2.1,z.2.2.2.2.1,z.2.2.2.2.2.1,z.2.2.2.2.2.2.1,z.2.2.2.2.2.2.2))) (fun z=>K (.inr (u0,u1,(u0.length:Int),z.1,z.2.1,z.2.2.1,z.2.2.2.1,z.2.2.2.2.1,z.2.2.2.2.2.1,z.2.2.2.2.2.2)))):=
 vbc h0 (fun i n a=>by intros;simp only [vad,vkd,vh3,a,decide_false,cond_false,Sum.elim_inr,Sum.elim_inl])
  (fun y l i n a f=>by intros;simp only [vad,vkd,vh3,a,decide_true,cond_true,and_self,if_true,Sum.elim_inl,Sum.elim_inr,f])
theorem wlr {u0 u1}(h0:u0.length<9223372036854775807){K:(q11T⊕q11T)→OR}{s4:Int}{s5:Int}{s6:Int}{s7:Int}{s8:Bool}{s9:ByteArray}:vad vkd Fuel (u0,u1,(u0.length:Int),(0:Int),s4,s5,s6,s7,s8,s9) K=vh3 u0 u1 u0 s4 s5 s6 s7 s8 s9 0 (Sum.elim (fun z=>K (.inl (u0,z.1,(u0.length:Int),z.2.1,z.2.2.1,z.2.2.2.1,z.2.2.2.2.1,z.2.2.2.2.2.1,z.2.2.2.2.2.2.1,z.2.2.2.2.2.2.2))) (fun z=>K (.inr (u0,u1,(u0.length:Int),z.1,z.2.1,z.2.2.1,z.2.2.2.1,z.2.2.2.2.1,z.2.2.2.2.2.1,z.2.2.2.2.2.2)))):=
 wi5 h0 u0 0 Fuel rfl (vay h0) s4 s5 s6 s7 s8 s9
def v90 (a0:TL)(a1:Int)(a2:Int)(a3:Int)(a4:Int)(a5:Bool)(a6:ByteArray)(k:q72T→OR):OR:=
 vh3 a0 (0:Int) a0 a1 a2 a3 a4 a5 a6 0 (Sum.elim (fun z18=>
  k (z18.1,z18.2.2.1,z18.2.2.2.1,z18.2.2.2.2.1,z18.2.2.2.2.2.1,z18.2.2.2.2.2.2.1,z18.2.2.2.2.2.2.2)) (fun z19=>
  k ((-1:Int),z19.2.1,z19.2.2.1,z19.2.2.2.1,z19.2.2.2.2.1,z19.2.2.2.2.2.1,z19.2.2.2.2.2.2)))
theorem wwi {a0:TL}{a1:Int}{a2:Int}{a3:Int}{a4:Int}{a5:Bool}{a6:ByteArray}(h0:a0.length<9223372036854775807){k:q72T→OR}:vpo a0 a1 a2 a3 a4 a5 a6 k=v90 a0 a1 a2 a3 a4 a5 a6 k:=by
 rw [v8d]
 simp only [v5f,v90,(wlr h0),Sum.elim_inl,Sum.elim_inr]
def v3b (a0:TL)(a1:Int)(a2:Int)(a3:Int)(a4:Int)(a5:Bool)(a6:ByteArray)(k:(q7T⊕q65T)→OR):OR:=
 vpo a0 a1 a2 a3 a4 a5 a6 (fun y18=>
  let y18h:=y18.2.2.2.2
  bif (y18.1==(-1:Int))then
   k (.inl (a0,y18.2.1,y18.2.2.1,y18.2.2.2.1,y18h.1,y18h.2.1,y18h.2.2))
  else
   vad vgq Fuel (.inl (y18.1,(IntKind.wrap .i64 (y18.1+(1:Int))),a0,([]:List Nat),y18.2.1,y18.2.2.1,y18.2.2.2.1,y18h.1,y18h.2.1,y18h.2.2)) (Sum.elim (fun z19=>
    let z19h:=z19.2.2.2.2
    if 0≤z19.1∧z19.1≤(z19.2.2.1.length:Int)then
     if 0≤z19.1∧z19.1≤((z19.2.2.1.take z19.1.toNat++List.replicate (z19.2.2.1.length-z19.1.toNat) (Ty.zero tTxn)).length:Int)then
      bif (geD z19.1.toNat (loD z19.1.toNat z19.2.2.2.1))then
       k (.inr (z19h.1,z19h.2.1,z19h.2.2.1,z19h.2.2.2.1,z19h.2.2.2.2.1,z19h.2.2.2.2.2,((z19.2.2.1.take z19.1.toNat++List.replicate (z19.2.2.1.length-z19.1.toNat) (Ty.zero tTxn)).take z19.1.toNat)))
      else
       none
     else none
    else none) (fun z20=>
    let z20h:=z20.2.2.2.2
    if 0≤z20.1∧z20.1≤(z20.2.2.1.length:Int)then
     if 0≤z20.1∧z20.1≤((z20.2.2.1.take z20.1.toNat++List.replicate (z20.2.2.1.length-z20.1.toNat) (Ty.zero tTxn)).length:Int)then
      bif (geD z20.1.toNat (loD z20.1.toNat z20.2.2.2.1))then
       k (.inr (z20h.1,z20h.2.1,z20h.2.2.1,z20h.2.2.2.1,z20h.2.2.2.2.1,z20h.2.2.2.2.2,((z20.2.2.1.take z20.1.toNat++List.replicate (z20.2.2.1.length-z20.1.toNat) (Ty.zero tTxn)).take z20.1.toNat)))
      else
       none
     else none
    else none)))
theorem wko {a0:TL}{a1:Int}{a2:Int}{a3:Int}{a4:Int}{a5:Bool}{a6:ByteArray}  {k:(q7T⊕q65T)→OR}:vs4 a0 a1 a2 a3 a4 a5 a6 k=v3b a0 a1 a2 a3 a4 a5 a6 k:=by
 rw [wa5]
 simp only [v27,v3b,Sum.elim_inl,Sum.elim_inr]
end
end Go.VE
